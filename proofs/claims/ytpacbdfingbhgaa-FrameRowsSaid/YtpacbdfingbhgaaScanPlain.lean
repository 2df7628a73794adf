/- The frames that bytes begin with, as a plain function, and its laws. No program; no condition. -/
import Derived.Test.YtpacbdfingbhgaaCrcPlain
namespace Go.Proofs.Ytpacbdfingbhgaa
open Go.RowKit
set_option linter.unusedVariables false

def scanFrom : Nat → List UInt8 → List (List UInt8) × Nat × Nat
  | 0, _ => ([], 0, 1)
  | f + 1, l => if l.length = 0 then ([], 0, 1) else if (nextL l).2.2 = 1 then ((nextL l).1 :: (scanFrom f (l.drop (nextL l).2.1)).1, (nextL l).2.1 + (scanFrom f (l.drop (nextL l).2.1)).2.1, (scanFrom f (l.drop (nextL l).2.1)).2.2)
    else ([], 0, (nextL l).2.2)
/-- The frames that bytes begin with, how many bytes these have, what stands behind. -/
def scanL (l : List UInt8) : List (List UInt8) × Nat × Nat := scanFrom l.length l
def glue (ls : List (List UInt8)) (n : Nat) (r : List (List UInt8) × Nat × Nat) : List (List UInt8) × Nat × Nat := (ls ++ r.1, n + r.2.1, r.2.2)

theorem nextL_size {l p : List UInt8} {m : Nat} (h : nextL l = (p, m, 1)) : 8 ≤ m ∧ m ≤ l.length ∧ p.length + 8 = m := by
  by_cases h4 : l.length < 4
  · rw [nextL_short h4] at h
    injection h with h1 h2
    injection h2 with h2 h3
    omega
  · obtain ⟨a, b, c, d, r, rfl⟩ := four_of (l := l) (by omega)
    rw [nextL_cons] at h
    split at h
    · injection h with h1 h2
      injection h2 with h2 h3
      omega
    · split at h
      · injection h with h1 h2
        injection h2 with h2 h3
        omega
      · split at h
        · injection h with h1 h2
          injection h2 with h2 h3
          subst h1 h2
          simp only [List.length_cons, List.length_take]
          omega
        · injection h with h1 h2
          injection h2 with h2 h3
          omega
theorem nextL_kind (l : List UInt8) : (∃ p m, nextL l = (p, m, 1)) ∨ nextL l = ([], 0, 2) ∨ nextL l = ([], 0, 3) := by
  by_cases h4 : l.length < 4
  · right; left; exact nextL_short h4
  · obtain ⟨a, b, c, d, r, rfl⟩ := four_of (l := l) (by omega)
    rw [nextL_cons]
    split
    · right; right; rfl
    · split
      · right; left; rfl
      · split
        · left; exact ⟨_, _, rfl⟩
        · right; right; rfl
theorem scan_start (l : List UInt8) : ∃ f, l.length - 0 ≤ f ∧ scanL l = glue [] 0 (scanFrom f (l.drop 0)) :=
  ⟨l.length, by omega, by simp [glue, scanL]⟩
/-- One frame more. -/
theorem scan_more {l p : List UInt8} {ls : List (List UInt8)} {n m : Nat} (hs : ∃ f, l.length - n ≤ f ∧ scanL l = glue ls n (scanFrom f (l.drop n))) (hn : n < l.length) (h : nextL (l.drop n) = (p, m, 1)) :
    ∃ f, l.length - (n + m) ≤ f ∧ scanL l = glue (ls ++ [p]) (n + m) (scanFrom f (l.drop (n + m))) := by
  obtain ⟨f, hf, e⟩ := hs
  obtain ⟨h8, hm, _⟩ := nextL_size h
  match f, hf with
  | 0, hf => omega
  | f + 1, hf =>
    refine ⟨f, by omega, ?_⟩
    rw [e, scanFrom, if_neg (by rw [List.length_drop]; omega), h, if_pos rfl, List.drop_drop]
    simp [glue, Nat.add_assoc]
/-- No frame more. -/
theorem scan_stop {l : List UInt8} {ls : List (List UInt8)} {n k : Nat} (hs : ∃ f, l.length - n ≤ f ∧ scanL l = glue ls n (scanFrom f (l.drop n))) (hn : n < l.length) (hk : k ≠ 1) (h : nextL (l.drop n) = ([], 0, k)) : scanL l = (ls, n, k) := by
  obtain ⟨f, hf, e⟩ := hs
  match f, hf with
  | 0, hf => omega
  | f + 1, hf =>
    rw [e, scanFrom, if_neg (by rw [List.length_drop]; omega), h, if_neg hk]
    simp [glue]
/-- The end. -/
theorem scan_end {l : List UInt8} {ls : List (List UInt8)} {n : Nat} (hs : ∃ f, l.length - n ≤ f ∧ scanL l = glue ls n (scanFrom f (l.drop n))) (hn : l.length ≤ n) : scanL l = (ls, n, 1) := by
  obtain ⟨f, hf, e⟩ := hs
  rw [e, List.drop_eq_nil_of_le hn]
  cases f with
  | zero => simp [glue, scanFrom]
  | succ f => rw [scanFrom, if_pos List.length_nil]; simp [glue]

/-! ### Rows of frames -/
/-- All frames behind each other. -/
def putsL (ls : List (List UInt8)) : List UInt8 := ls.flatMap putL
/-- Whole frames are told, then what stands behind. -/
theorem scan_puts (r : List UInt8) : ∀ (ls : List (List UInt8)) (f : Nat), (∀ p ∈ ls, p.length ≤ 131072) → (putsL ls ++ r).length ≤ f →
    ∃ f', r.length ≤ f' ∧ scanFrom f (putsL ls ++ r) = glue ls (putsL ls).length (scanFrom f' r)
  | [], f, _, hf => ⟨f, by simpa [putsL] using hf, by simp [putsL, glue]⟩
  | p :: ls, f, hp, hf => by
    have e : putsL (p :: ls) ++ r = putL p ++ (putsL ls ++ r) := by simp [putsL]
    have hl : (putL p).length = p.length + 8 := putL_length p
    rw [e] at hf ⊢
    have hn := next_put p (putsL ls ++ r) (hp p (by simp))
    match f, hf with
    | 0, hf => rw [List.length_append] at hf; omega
    | f + 1, hf =>
      rw [List.length_append] at hf
      obtain ⟨f', h1, h2⟩ := scan_puts r ls f (fun q hq => hp q (by simp [hq])) (by omega)
      refine ⟨f', h1, ?_⟩
      rw [scanFrom, if_neg (by rw [List.length_append]; omega), hn, if_pos rfl, ← hl, List.drop_left, h2]
      simp [glue, putsL, hl, Nat.add_assoc]
theorem scanFrom_nil (f : Nat) : scanFrom f [] = ([], 0, 1) := by
  cases f with
  | zero => rfl
  | succ f => rw [scanFrom, if_pos List.length_nil]
theorem scanL_puts (ls : List (List UInt8)) (h : ∀ p ∈ ls, p.length ≤ 131072) : scanL (putsL ls) = (ls, (putsL ls).length, 1) := by
  obtain ⟨f', _, e⟩ := scan_puts [] ls (putsL ls).length h (by simp)
  rw [List.append_nil] at e
  unfold scanL
  rw [e, scanFrom_nil]
  simp [glue]
/-- A frame that is cut off is torn. -/
theorem next_cut (p : List UInt8) (k : Nat) (hp : p.length ≤ 131072) (hk : k < (putL p).length) : nextL ((putL p).take k) = ([], 0, 2) := by
  rw [putL_length] at hk
  by_cases h4 : k < 4
  · exact nextL_short (by rw [List.length_take]; omega)
  · have e : (putL p).take k = le4 p.length ++ (p ++ le4 (sumL (le4 p.length ++ p))).take (k - 4) := by
      unfold putL
      rw [List.append_assoc, List.take_append, le4_length, List.take_of_length_le (by rw [le4_length]; omega)]
    have h := nextL_cons (nthByte p.length 0) (nthByte p.length 1) (nthByte p.length 2) (nthByte p.length 3) ((p ++ le4 (sumL (le4 p.length ++ p))).take (k - 4))
    rw [word4_le4 _ (by omega), if_neg (by unfold frameMost; omega), if_pos (by rw [List.length_take, List.length_append, le4_length]; omega)] at h
    rw [e]
    exact h
theorem putsL_append (a b : List (List UInt8)) : putsL (a ++ b) = putsL a ++ putsL b := by simp [putsL]
/-- A row of frames that is cut off within one. -/
theorem scan_cut (ls : List (List UInt8)) (p : List UInt8) (r : List UInt8) (k : Nat) (h : ∀ q ∈ ls, q.length ≤ 131072) (hp : p.length ≤ 131072) (hk : 0 < k) (hk' : k < (putL p).length) :
    scanL (putsL ls ++ (putL p).take k) = (ls, (putsL ls).length, 2) := by
  obtain ⟨f', h1, e⟩ := scan_puts ((putL p).take k) ls _ h (Nat.le_refl _)
  unfold scanL
  rw [e]
  have hl : ((putL p).take k).length = k := by rw [List.length_take]; omega
  match f', h1 with
  | 0, h1 => omega
  | f' + 1, h1 =>
    rw [scanFrom, if_neg (by omega), next_cut p k hp hk', if_neg (by decide)]
    simp [glue]
end Go.Proofs.Ytpacbdfingbhgaa
