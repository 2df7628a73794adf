import Derived.Test.YtbgnmkjjfaepiaaRingSet
namespace Go.Proofs.Ytbgnmkjjfaepiaa
open Go.RowKit
set_option linter.unusedVariables false

/-! ### Plain laws of a sound ring -/
theorem sg_cons {x y : Int} {r : Rg} {l : List Rg} (h : soundGo x (r :: l) = some y) : r.a = x ∧ r.a ≤ r.b ∧ r.b ≤ 4294967295 ∧ ownedL r = true ∧ soundGo (r.b + 1) l = some y := by
  unfold soundGo at h
  split at h
  · rename_i hc
    exact ⟨hc.1, hc.2.1, hc.2.2.1, hc.2.2.2, h⟩
  · cases h
theorem sg_mk {x : Int} {r : Rg} {l : List Rg} (h1 : r.a = x) (h2 : r.a ≤ r.b) (h3 : r.b ≤ 4294967295) (h4 : ownedL r = true) : soundGo x (r :: l) = soundGo (r.b + 1) l := by
  rw [soundGo, if_pos ⟨h1, h2, h3, h4⟩]
theorem sg_le {l : List Rg} : ∀ {x y : Int}, soundGo x l = some y → x ≤ y := by
  induction l with
  | nil => intro x y h; rw [soundGo] at h; injection h with h; omega
  | cons r l ih => intro x y h; obtain ⟨h1, h2, _, _, h5⟩ := sg_cons h; have := ih h5; omega
theorem sg_mem {l : List Rg} : ∀ {x y : Int}, soundGo x l = some y → ∀ r ∈ l, x ≤ r.a ∧ r.a ≤ r.b ∧ r.b < y ∧ r.b ≤ 4294967295 ∧ ownedL r = true := by
  induction l with
  | nil => intro x y _ r hr; simp at hr
  | cons s l ih =>
    intro x y h r hr
    obtain ⟨h1, h2, h3, h4, h5⟩ := sg_cons h
    have hle := sg_le h5
    rcases List.mem_cons.1 hr with rfl | hr
    · exact ⟨by omega, h2, by omega, h3, h4⟩
    · obtain ⟨g1, g2, g3, g4, g5⟩ := ih h5 r hr
      exact ⟨by omega, g2, g3, g4, g5⟩
theorem sg_find {l : List Rg} : ∀ {x y : Int} {k : Nat} {r : Rg} {h : Int}, soundGo x l = some y → l[k]? = some r → r.a ≤ h → h ≤ r.b → l.findIdx? (has h) = some k := by
  induction l with
  | nil => intro x y k r h _ hk; simp at hk
  | cons s l ih =>
    intro x y k r h hs hk ha hb
    obtain ⟨h1, h2, h3, h4, h5⟩ := sg_cons hs
    cases k with
    | zero =>
      simp at hk; subst hk
      rw [List.findIdx?_cons, show has h s = true by simp [has]; omega]
      rfl
    | succ k =>
      simp at hk
      have := (sg_mem h5 r (List.mem_of_getElem? hk)).1
      rw [List.findIdx?_cons, show has h s = false by simp [has]; omega, ih h5 hk ha hb]
      rfl
theorem sg_set {l : List Rg} : ∀ {x y : Int} {k : Nat} {r r' : Rg}, soundGo x l = some y → l[k]? = some r → r'.a = r.a → r'.b = r.b → ownedL r' = true → soundGo x (l.set k r') = some y := by
  induction l with
  | nil => intro x y k r r' _ hk; simp at hk
  | cons s l ih =>
    intro x y k r r' hs hk ha hb ho
    obtain ⟨h1, h2, h3, h4, h5⟩ := sg_cons hs
    cases k with
    | zero =>
      simp at hk; subst hk
      rw [List.set_cons_zero, sg_mk (by omega) (by omega) (by omega) ho, hb]; exact h5
    | succ k =>
      simp at hk
      rw [List.set_cons_succ, sg_mk h1 h2 h3 h4]; exact ih h5 hk ha hb ho
theorem sound_parts {l : List Rg} (h : soundL l = true) : soundGo 0 l = some 4294967296 ∧ l.length ≤ 64 := by
  unfold soundL at h
  rw [Bool.and_eq_true] at h
  exact ⟨by simpa using h.1, by simpa using h.2⟩
theorem sound_mk {l : List Rg} (h1 : soundGo 0 l = some 4294967296) (h2 : l.length ≤ 64) : soundL l = true := by
  unfold soundL
  rw [h1]; simp [h2]
theorem sound_pos {l : List Rg} (h : soundL l = true) : 0 < l.length := by
  cases l with
  | nil => have := (sound_parts h).1; rw [soundGo] at this; injection this with this; omega
  | cons r l => simp
theorem setL_at {l : List Rg} {k : Nat} {x r : Rg} (hs : soundL l = true) (hk : l[k]? = some x) (ha : r.a = x.a) (hb : r.b = x.b) : setL l r = if ownedL r then (l.set k r, 0) else ([], 1) := by
  obtain ⟨h1, h2⟩ := sound_parts hs
  have hm := sg_mem h1 x (List.mem_of_getElem? hk)
  unfold setL
  rw [if_neg (by rw [hs]; simp), sg_find h1 hk (h := r.a) (by omega) (by omega)]
  simp only [hk, Option.getD_some, ha, hb, and_self, if_true]
theorem sound_set {l : List Rg} {k : Nat} {x r : Rg} (hs : soundL l = true) (hk : l[k]? = some x) (ha : r.a = x.a) (hb : r.b = x.b) (ho : ownedL r = true) : soundL (l.set k r) = true := by
  obtain ⟨h1, h2⟩ := sound_parts hs
  exact sound_mk (sg_set h1 hk ha hb ho) (by rw [List.length_set]; exact h2)
theorem set_back {l : List Rg} {k : Nat} {x r : Rg} (hk : l[k]? = some x) : (l.set k r).set k x = l := by
  rw [List.set_set]
  apply List.ext_getElem?
  intro j
  by_cases h : j = k
  · subst h
    rw [List.getElem?_set_self (List.getElem?_eq_some_iff.1 hk).1, hk]
  · rw [List.getElem?_set_ne (by omega)]
end Go.Proofs.Ytbgnmkjjfaepiaa
