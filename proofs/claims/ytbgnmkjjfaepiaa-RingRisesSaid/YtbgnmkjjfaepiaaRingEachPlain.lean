import Derived.Test.YtbgnmkjjfaepiaaRingSplit
namespace Go.Proofs.Ytbgnmkjjfaepiaa
open Go.RowKit
set_option linter.unusedVariables false

theorem sg_cover {l : List Rg} : ∀ {x y h : Int}, soundGo x l = some y → x ≤ h → h < y → ∃ (k : Nat) (r : Rg), l[k]? = some r ∧ has h r = true := by
  induction l with
  | nil => intro x y h hs h1 h2; rw [soundGo] at hs; injection hs with hs; omega
  | cons s l ih =>
    intro x y h hs h1 h2
    obtain ⟨g1, g2, g3, g4, g5⟩ := sg_cons hs
    by_cases hb : h ≤ s.b
    · exact ⟨0, s, rfl, by simp [has]; omega⟩
    · obtain ⟨k, r, hk, hr⟩ := ih g5 (by omega) h2
      exact ⟨k + 1, r, by simpa using hk, hr⟩
theorem has_iff {h : Int} {r : Rg} : has h r = true ↔ r.a ≤ h ∧ h ≤ r.b := by simp [has]
theorem sg_find_at {l : List Rg} {x y h : Int} {k : Nat} {r : Rg} (hs : soundGo x l = some y) (hk : l[k]? = some r) (hh : has h r = true) : l.find? (has h) = some r := by
  obtain ⟨h1, h2⟩ := has_iff.1 hh
  have hf := sg_find hs hk h1 h2
  rcases find_split l h with ⟨e, _⟩ | ⟨k', r', e, hk', hf', _⟩
  · unfold idxL at e; rw [hf] at e; simp at e
  · unfold idxL at e; rw [hf] at e
    have : k' = k := by simp at e; omega
    subst this
    rw [hk] at hk'; injection hk' with hk'; rw [hk']; exact hf'
theorem sg_uniq {l : List Rg} {x y h : Int} {k j : Nat} {r s : Rg} (hs : soundGo x l = some y) (hk : l[k]? = some r) (hj : l[j]? = some s) (h1 : has h r = true) (h2 : has h s = true) : k = j := by
  obtain ⟨a1, a2⟩ := has_iff.1 h1
  obtain ⟨b1, b2⟩ := has_iff.1 h2
  have e1 := sg_find hs hk a1 a2
  have e2 := sg_find hs hj b1 b2
  rw [e1] at e2; injection e2
theorem sg_split {l : List Rg} : ∀ {x y : Int} {k : Nat} {r : Rg} {cut : Int}, soundGo x l = some y → l[k]? = some r → r.a < cut → cut ≤ r.b → r.d < 1099511627776 → soundGo x (l.take k ++ splitR r cut ++ l.drop (k + 1)) = some y := by
  induction l with
  | nil => intro x y k r cut _ hk; simp at hk
  | cons s l ih =>
    intro x y k r cut hs hk h1 h2 h3
    obtain ⟨g1, g2, g3, g4, g5⟩ := sg_cons hs
    cases k with
    | zero =>
      simp at hk; subst hk
      have ho : 1 ≤ s.c ∧ s.c ≤ 5 ∧ 1 ≤ s.d := by simp [ownedL] at g4; omega
      simp only [List.take_zero, List.nil_append, splitR, List.cons_append, List.drop_succ_cons, List.drop_zero]
      rw [sg_mk (by simp only; omega) (by simp only; omega) (by simp only; omega) (by simp [ownedL]; omega),
        sg_mk (by simp only; omega) (by simp only; omega) (by simp only; omega) (by simp [ownedL]; omega)]
      exact g5
    | succ k =>
      simp at hk
      rw [List.take_succ_cons, List.drop_succ_cons, List.cons_append, List.cons_append, sg_mk g1 g2 g3 g4]
      exact ih g5 hk h1 h2 h3
theorem each_found {l : List Rg} {h : Int} (hs : soundL l = true) (h0 : 0 ≤ h) (h1 : h ≤ 4294967295) : ∃ (k : Nat) (r : Rg), l[k]? = some r ∧ has h r = true ∧ findL l h = some r := by
  obtain ⟨k, r, hk, hr⟩ := sg_cover (sound_parts hs).1 h0 (by omega)
  exact ⟨k, r, hk, hr, by unfold findL; rw [if_pos hs]; exact sg_find_at (sound_parts hs).1 hk hr⟩
theorem each_step {l m : List Rg} {cut hash e : Int} {was : Rg} {j : Nat} (hs : soundL l = true) (hj : l[j]? = some was) (hw : has hash was = true) (hsp : splitL l cut = (m, e)) :
    (e ≠ 0 ∧ m = []) ∨ (e = 0 ∧ soundL m = true ∧ m.length = l.length + 1 ∧ ∃ (j' : Nat) (now : Rg), m[j']? = some now ∧ has hash now = true ∧ findL m hash = some now ∧ now.c = was.c ∧ ((has cut was = true ∧ now.d = was.d + 1) ∨ (has cut was = false ∧ now = was))) := by
  obtain ⟨s1, s2⟩ := sound_parts hs
  unfold splitL at hsp
  rw [if_neg (by rw [hs]; simp)] at hsp
  cases hf : l.findIdx? (has cut) with
  | none => rw [hf] at hsp; simp only [Prod.mk.injEq] at hsp; left; exact ⟨by omega, hsp.1.symm⟩
  | some k =>
    rw [hf] at hsp
    obtain ⟨hkl, hp, _⟩ := List.findIdx?_eq_some_iff_getElem.1 hf
    have hk : l[k]? = some l[k] := List.getElem?_eq_getElem hkl
    generalize l[k] = x at hk hp
    simp only [hk, Option.getD_some] at hsp
    by_cases c1 : x.a = cut ∨ x.d = 1099511627776
    · rw [if_pos c1] at hsp; simp only [Prod.mk.injEq] at hsp; left; exact ⟨by omega, hsp.1.symm⟩
    rw [if_neg c1] at hsp
    by_cases c2 : 64 ≤ l.length
    · rw [if_pos c2] at hsp; simp only [Prod.mk.injEq] at hsp; left; exact ⟨by omega, hsp.1.symm⟩
    rw [if_neg c2] at hsp
    simp only [Prod.mk.injEq] at hsp
    obtain ⟨rfl, rfl⟩ := hsp
    right
    obtain ⟨p1, p2⟩ := has_iff.1 hp
    have hxm := sg_mem s1 x (List.mem_of_getElem? hk)
    have hxo : x.d ≤ 1099511627776 := by have := hxm.2.2.2.2; simp [ownedL] at this; omega
    have c1' : x.a ≠ cut ∧ x.d ≠ 1099511627776 := by simpa using c1
    have hsm := sg_split s1 hk (cut := cut) (by omega) p2 (by omega)
    have hlen : (l.take k ++ splitR x cut ++ l.drop (k + 1)).length = l.length + 1 := by
      simp only [splitR, List.length_append, List.length_take, List.length_drop, List.length_cons, List.length_nil]; omega
    have hms : soundL (l.take k ++ splitR x cut ++ l.drop (k + 1)) = true := sound_mk hsm (by omega)
    refine ⟨rfl, hms, hlen, ?_⟩
    have fin : ∀ now, now ∈ l.take k ++ splitR x cut ++ l.drop (k + 1) → has hash now = true → now.c = was.c → ((has cut was = true ∧ now.d = was.d + 1) ∨ (has cut was = false ∧ now = was)) →
        ∃ (j' : Nat) (now : Rg), (l.take k ++ splitR x cut ++ l.drop (k + 1))[j']? = some now ∧ has hash now = true ∧ findL (l.take k ++ splitR x cut ++ l.drop (k + 1)) hash = some now ∧ now.c = was.c ∧ ((has cut was = true ∧ now.d = was.d + 1) ∨ (has cut was = false ∧ now = was)) := by
      intro now hm hh hc hd
      obtain ⟨j', hj', he⟩ := List.getElem_of_mem hm
      have hg : (l.take k ++ splitR x cut ++ l.drop (k + 1))[j']? = some now := by rw [List.getElem?_eq_getElem hj', he]
      exact ⟨j', now, hg, hh, by unfold findL; rw [if_pos hms]; exact sg_find_at hsm hg hh, hc, hd⟩
    by_cases hit : has cut was = true
    · have hjk := sg_uniq s1 hj hk hit hp
      subst hjk
      rw [hk] at hj; injection hj with hj; subst hj
      obtain ⟨q1, q2⟩ := has_iff.1 hw
      by_cases hlt : hash < cut
      · exact fin ⟨x.a, cut - 1, x.c, x.d + 1⟩ (by simp [splitR]) (has_iff.2 ⟨q1, by simp only; omega⟩) rfl (.inl ⟨hit, rfl⟩)
      · exact fin ⟨cut, x.b, x.c, x.d + 1⟩ (by simp [splitR]) (has_iff.2 ⟨by simp only; omega, q2⟩) rfl (.inl ⟨hit, rfl⟩)
    · have hjk : j ≠ k := fun e => by subst e; rw [hk] at hj; injection hj with hj; subst hj; exact hit hp
      have hmem : was ∈ l.take k ++ splitR x cut ++ l.drop (k + 1) := by
        simp only [List.mem_append]
        by_cases hlt : j < k
        · left; left; exact List.mem_of_getElem? (i := j) (by rw [List.getElem?_take_of_lt hlt]; exact hj)
        · right; exact List.mem_of_getElem? (i := j - (k + 1)) (by rw [List.getElem?_drop, show k + 1 + (j - (k + 1)) = j by omega]; exact hj)
      exact fin was hmem hw rfl (.inr ⟨by simpa using hit, rfl⟩)
end Go.Proofs.Ytbgnmkjjfaepiaa
