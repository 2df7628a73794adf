/- The walks of penstockalike.Sum and TotalBytes: numbers added, held at a limit. No condition but that the numbers are lengths. -/
import Derived.Test.YtpacbdfingbhgaaLists
namespace Go.Proofs.Ytpacbdfingbhgaa
open Go.RowKit
set_option linter.unusedVariables false

def sumMost : Nat := 1099511627776
def sumTo (n : Nat) : List Nat → Nat
  | [] => n
  | x :: r => if sumMost < n + x then sumMost else sumTo (n + x) r
theorem sumTo_le : ∀ (l : List Nat) (n : Nat), n ≤ sumMost → sumTo n l ≤ sumMost
  | [], n, h => h
  | x :: r, n, h => by
    rw [sumTo]
    split
    · exact Nat.le_refl _
    · exact sumTo_le r _ (by omega)
theorem sumTo_small : ∀ (l : List Nat) (n : Nat), sumTo n l < sumMost → sumTo n l = n + l.sum
  | [], n, h => by simp [sumTo]
  | x :: r, n, h => by
    rw [sumTo] at h ⊢
    split at h
    · omega
    · rename_i hc
      rw [if_neg hc, sumTo_small r _ h, List.sum_cons, Nat.add_assoc]
def nums (xs : List Nat) : List Value := xs.map fun (x : Nat) => Value.int .i64 (x : Int)
theorem nums_get {xs : List Nat} {k : Nat} {u : Value} (h : (nums xs)[k]? = some u) : ∃ x, xs[k]? = some x ∧ u = .int .i64 (x : Int) := by
  simp only [nums, List.getElem?_map, Option.map_eq_some_iff] at h
  obtain ⟨b, h1, h2⟩ := h
  exact ⟨b, h1, h2.symm⟩

set_option maxRecDepth 100000 in
set_option maxHeartbeats 400000 in
theorem asum_any (n : Nat) (A : Option Addr) (m c : Nat) (xs : List Nat) (w : World) {B : Nat} (ha : Reads w B 1 A m (nums xs)) (hn : n ≤ sumMost) (hm : m ≤ 1000000) (hx : ∀ x ∈ xs, x ≤ maxLen) :
    Calls Try.prog 27 #[.int .i64 n, .slice A m c] w fun e w' => e = .returned (.int .i64 (sumTo n xs)) ∧ w = w' := by
  have HL : Hid (xs.length = m) := by have := ha.1; simp [nums] at this; unfold Hid; omega
  unfold sumMost at hn
  go_enter Try.func27, Try.ntmps27
  go_wp2
  go_loop [0, 5] (fun a i => ∃ k n' : Nat, k ≤ m ∧ n' ≤ 1099511627776 ∧ i = .int .i64 k ∧ a = .int .i64 n' ∧ Hid (sumTo n xs = sumTo n' (xs.drop k))) (fun _ i => m - (intOf i).toNat)
  case atStart => exact ⟨0, n, Nat.zero_le _, hn, rfl, rfl, by rw [List.drop_zero]; rfl⟩
  case round =>
    obtain ⟨k, n', hk, hn', rfl, rfl, hs⟩ := hrel
    by_cases hlt : k < m
    · obtain ⟨ad, u, rfl, hu, hca⟩ := ha.at' hlt
      obtain ⟨x, hxk, rfl⟩ := nums_get hu
      have hxm := hx x (List.mem_of_getElem? hxk)
      unfold maxLen at hxm
      have hd : xs.drop k = x :: xs.drop (k + 1) := by
        obtain ⟨hl, rfl⟩ := List.getElem?_eq_some_iff.1 hxk
        exact List.drop_eq_getElem_cons hl
      have hs2 := hs.out
      rw [hd, sumTo] at hs2
      have HS := Lib.hid hs2
      clear hs hs2 hd hu hxk
      by_cases hbig : 1099511627776 < n' + x
      · have HR := Lib.hid (HS.out.trans (if_pos (show sumMost < n' + x by unfold sumMost; omega)))
        go_wp2
        go_ret
        exact ⟨ret_int (by rw [HR.out]; rfl), rfl⟩
      · have HR := Lib.hid (HS.out.trans (if_neg (show ¬ sumMost < n' + x by unfold sumMost; omega)))
        have hle : n' + x ≤ 1099511627776 := by omega
        clear hbig
        go_wp2
        go_round
        case rel => exact ⟨k + 1, n' + x, by omega, by omega, by go_num, by go_num, HR.out⟩
        case measure => simp [intOf]; omega
    · have hR := Lib.hid (hs.out.trans (by rw [List.drop_eq_nil_of_le (by have := HL.out; omega)]; rfl : sumTo n' (xs.drop k) = n'))
      have hge : m ≤ k := by omega
      clear hlt hs
      go_wp2
      go_ret
      exact ⟨ret_int (by rw [hR.out]), rfl⟩

def totFrom (top n : Nat) : List (List UInt8) → Nat
  | [] => n
  | x :: r => if n ≤ top then totFrom top (sumTo n [x.length]) r else n
/-- The bytes of all and their number; more than top at once. -/
def totalL (ls : List (List UInt8)) (top : Nat) : Nat := totFrom top (sumTo 0 [ls.length]) ls
theorem totFrom_small {top : Nat} (ht : top < sumMost) : ∀ (ls : List (List UInt8)) (n : Nat), totFrom top n ls ≤ top → n + (ls.map List.length).sum ≤ top
  | [], n, h => by simpa [totFrom] using h
  | x :: r, n, h => by
    rw [totFrom] at h
    split at h
    · rename_i hn
      have h1 := totFrom_small ht r _ h
      by_cases hb : sumTo n [x.length] < sumMost
      · rw [sumTo_small _ _ hb] at h1
        simp at h1 ⊢
        omega
      · omega
    · omega
theorem totalL_small {top : Nat} (ht : top < sumMost) {ls : List (List UInt8)} (h : totalL ls top ≤ top) : ls.length + (ls.map List.length).sum ≤ top := by
  have h1 := totFrom_small ht ls _ h
  by_cases hb : sumTo 0 [ls.length] < sumMost
  · rw [sumTo_small _ _ hb] at h1
    simp at h1
    omega
  · omega
theorem totFrom_bd {top : Nat} : ∀ (ls : List (List UInt8)) (n : Nat), n ≤ sumMost → totFrom top n ls ≤ sumMost
  | [], n, h => h
  | x :: r, n, h => by
    rw [totFrom]
    split
    · exact totFrom_bd r _ (sumTo_le _ _ h)
    · exact h
theorem reads_num (w : World) (x : Nat) (e : TypeId) : Reads (w.alloc (.cells #[.int .i64 (x : Int)] e)) (w.heap.size + 1) 1 (some ⟨w.heap.size, 0, none⟩) 1 (nums [x]) := reads_new1 w _ e

set_option maxRecDepth 100000 in
set_option maxHeartbeats 800000 in
theorem total_any (A : Option Addr) (n c : Nat) (vs : List Value) (ls : List (List UInt8)) (top : Nat) (w : World) (ha : Reads w w.heap.size 1 A n vs) (hv : AreBytes w w.heap.size vs ls) (hn : n ≤ maxLen) (ht : top ≤ 1000000) :
    Calls Try.prog 21 #[.slice A n c, .int .i64 top] w fun e w' => e = .returned (.int .i64 (totalL ls top)) ∧ Below w.heap.size w w' := by
  unfold maxLen at hn
  have HL : Hid (ls.length = n) := by have := ha.1; have := hv.1; unfold Hid; omega
  have hs0 := sumTo_le [n] 0 (Nat.zero_le _)
  unfold sumMost at hs0
  go_enter Try.func21, Try.ntmps21
  go_wp2_with fail
  refine (asum_any 0 _ 1 1 [n] _ (reads_num w n _) (Nat.zero_le _) (by omega) (by intro x hx; simp at hx; unfold maxLen; omega)).mono ?_
  rintro e w' ⟨rfl, rfl⟩
  have hb0 : Below w.heap.size w (w.alloc (.cells #[.int .i64 (n : Int)] 3)) := (Below.refl _ _).alloc (Nat.le_refl _) _
  go_wp2
  go_loopw [5, 6] (fun a i wr => ∃ k t : Nat, k ≤ n ∧ t ≤ 1099511627776 ∧ i = .int .i64 k ∧ a = .int .i64 t ∧ Below w.heap.size w wr ∧ Hid (totalL ls top = totFrom top t (ls.drop k))) (fun _ i _ => n - (intOf i).toNat)
  case atStart => exact ⟨0, _, Nat.zero_le _, hs0, rfl, rfl, hb0, by rw [List.drop_zero]; unfold Hid totalL; rw [HL.out]⟩
  case round =>
    obtain ⟨k, t, hk, ht', rfl, rfl, hb, hs⟩ := hrel
    have hz := hb.size
    by_cases hlt : k < n
    · by_cases htt : t ≤ top
      · obtain ⟨ad, u, rfl, hu, hca⟩ := (ha.below hb).at' hlt
        obtain ⟨l, hl⟩ : ∃ l, ls[k]? = some l := ⟨_, List.getElem?_eq_getElem (by have := HL.out; omega)⟩
        obtain ⟨A1, c1, rfl, hc1, hm1, hr1⟩ := hv.2 k u l hu hl
        have hd : ls.drop k = l :: ls.drop (k + 1) := by
          obtain ⟨hl', rfl⟩ := List.getElem?_eq_some_iff.1 hl
          exact List.drop_eq_getElem_cons hl'
        have hs2 := hs.out
        rw [hd, totFrom, if_pos htt] at hs2
        have HS := Lib.hid hs2
        have hst := sumTo_le [l.length] t (by unfold sumMost; omega)
        unfold sumMost at hst
        clear hs hs2 hd hu hl
        unfold maxLen at hm1
        go_wp2_with fail
        refine (asum_any t _ 1 1 [l.length] _ (reads_num wr l.length _) (by unfold sumMost; omega) (by omega) (by intro x hx; simp at hx; unfold maxLen; omega)).mono ?_
        rintro e w' ⟨rfl, rfl⟩
        go_wp2
        go_roundw
        case rel => exact ⟨k + 1, _, by omega, hst, by go_num, rfl, hb.alloc hz _, HS.out⟩
        case measure => simp [intOf]; omega
      · obtain ⟨l, hl⟩ : ∃ l, ls[k]? = some l := ⟨_, List.getElem?_eq_getElem (by have := HL.out; omega)⟩
        have hd : ls.drop k = l :: ls.drop (k + 1) := by
          obtain ⟨hl', rfl⟩ := List.getElem?_eq_some_iff.1 hl
          exact List.drop_eq_getElem_cons hl'
        have hs2 := hs.out
        rw [hd, totFrom, if_neg htt] at hs2
        have HS := Lib.hid hs2
        have hgt : top < t := by omega
        clear hs hs2 hd hl htt
        go_wp2
        go_ret
        exact ⟨ret_int (by rw [HS.out]), hb⟩
    · have hs2 := hs.out
      rw [List.drop_eq_nil_of_le (by have := HL.out; omega), totFrom] at hs2
      have HS := Lib.hid hs2
      have hge : n ≤ k := by omega
      clear hs hs2 hlt
      go_wp2
      go_ret
      exact ⟨ret_int (by rw [HS.out]), hb⟩
end Go.Proofs.Ytpacbdfingbhgaa
