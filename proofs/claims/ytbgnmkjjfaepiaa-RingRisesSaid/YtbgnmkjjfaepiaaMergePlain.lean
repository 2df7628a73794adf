import Derived.Test.YtbgnmkjjfaepiaaRingEachPlain
namespace Go.Proofs.Ytbgnmkjjfaepiaa
open Go.RowKit
set_option linter.unusedVariables false

/-! ### What two rings are put together to: plain -/
/-- Is the other one's range taken? -/
def takeB (x y : Rg) (self : Int) : Bool := decide (x.c ≠ self) && decide (y.c ≠ self) && decide (x.d < y.d)
def setLast (out : List Rg) (last : Int) : List Rg := out.dropLast ++ (match out.getLast? with | some p => [⟨p.a, last, p.c, p.d⟩] | none => [])
def whoP (x y : Rg) (self : Int) (i k : Nat) : Int := if takeB x y self then 1000 + (k : Int) else (i : Int)
def pickP (x y : Rg) (self : Int) : Rg := if takeB x y self then y else x
def pieceP (x y : Rg) (self : Int) : Rg := ⟨max x.a y.a, min x.b y.b, (pickP x y self).c, (pickP x y self).d⟩
def outP (x y : Rg) (self : Int) (i k : Nat) (out : List Rg) (from_ : Int) : List Rg :=
  if whoP x y self i k = from_ then setLast out (min x.b y.b) else out ++ [pieceP x y self]
def nextI (x y : Rg) (i : Nat) : Nat := if x.b = min x.b y.b then i + 1 else i
def nextK (x y : Rg) (k : Nat) : Nat := if y.b = min x.b y.b then k + 1 else k
def goM (l m : List Rg) (self : Int) : Nat → Nat → Nat → List Rg → Int → List Rg
  | 0, _, _, out, _ => out
  | f + 1, i, k, out, from_ =>
    match l[i]?, m[k]? with
    | some x, some y => goM l m self f (nextI x y i) (nextK x y k) (outP x y self i k out from_) (whoP x y self i k)
    | _, _ => out
def mergeL (l m : List Rg) (self : Int) : List Rg := goM l m self (l.length + m.length) 0 0 [] (-1)
def mergeR (l m : List Rg) (self : Int) : List Rg := if soundL l = true ∧ soundL m = true ∧ (mergeL l m self).length ≤ 64 then mergeL l m self else l

/-- Where the walk stands. -/
def posP (l m : List Rg) (i k : Nat) : Int := match l[i]?, m[k]? with | some x, some y => max x.a y.a | _, _ => 4294967296
def ofP (l m : List Rg) (from_ : Int) : Option Rg := if from_ < 0 then none else if from_ < 1000 then l[from_.toNat]? else m[(from_ - 1000).toNat]?
structure MInv (l m : List Rg) (slf : Int) (i k : Nat) (out : List Rg) (from_ : Int) : Prop where
  hi : i ≤ l.length
  hk : k ≤ m.length
  hik : i < l.length ↔ k < m.length
  hl : ∀ x, l[i]? = some x → x.a ≤ posP l m i k ∧ posP l m i k ≤ x.b
  hm : ∀ y, m[k]? = some y → y.a ≤ posP l m i k ∧ posP l m i k ≤ y.b
  pl : ∀ j x, j < i → l[j]? = some x → x.b < posP l m i k
  pm : ∀ j y, j < k → m[j]? = some y → y.b < posP l m i k
  so : soundGo 0 out = some (posP l m i k)
  fr : (out = [] ∧ from_ = -1) ∨ ∃ p r, out.getLast? = some p ∧ ofP l m from_ = some r ∧ 0 ≤ from_ ∧ from_ < 2000 ∧ p.c = r.c ∧ p.d = r.d
  len : out.length ≤ i + k
  sem : ∀ p ∈ out, ∀ h, has h p = true → ∃ x ∈ l, ∃ y ∈ m, has h x = true ∧ has h y = true ∧ p.c = (pickP x y slf).c ∧ p.d = (pickP x y slf).d
  go : ∃ f, (l.length - i) + (m.length - k) ≤ f ∧ goM l m slf f i k out from_ = mergeL l m slf

theorem goM_end {l m : List Rg} {self : Int} {i k : Nat} (h : l.length ≤ i) : ∀ (f : Nat) (out : List Rg) (from_ : Int), goM l m self f i k out from_ = out
  | 0, _, _ => rfl
  | f + 1, out, from_ => by rw [goM]; rw [List.getElem?_eq_none h]

theorem sg_app {l m : List Rg} : ∀ {x y z : Int}, soundGo x l = some y → soundGo y m = some z → soundGo x (l ++ m) = some z := by
  induction l with
  | nil => intro x y z h1 h2; rw [soundGo] at h1; injection h1 with h1; subst h1; exact h2
  | cons r l ih =>
    intro x y z h1 h2
    obtain ⟨g1, g2, g3, g4, g5⟩ := sg_cons h1
    rw [List.cons_append, sg_mk g1 g2 g3 g4]
    exact ih g5 h2
theorem sg_app_inv {l m : List Rg} : ∀ {x z : Int}, soundGo x (l ++ m) = some z → ∃ y, soundGo x l = some y ∧ soundGo y m = some z := by
  induction l with
  | nil => intro x z h; exact ⟨x, rfl, h⟩
  | cons r l ih =>
    intro x z h
    rw [List.cons_append] at h
    obtain ⟨g1, g2, g3, g4, g5⟩ := sg_cons h
    obtain ⟨y, e1, e2⟩ := ih g5
    exact ⟨y, by rw [sg_mk g1 g2 g3 g4]; exact e1, e2⟩
theorem sg_next {l : List Rg} : ∀ {x y : Int} {k : Nat} {r s : Rg}, soundGo x l = some y → l[k]? = some r → l[k + 1]? = some s → s.a = r.b + 1 := by
  induction l with
  | nil => intro x y k r s _ hk; simp at hk
  | cons t l ih =>
    intro x y k r s hs hk hk1
    obtain ⟨g1, g2, g3, g4, g5⟩ := sg_cons hs
    cases k with
    | zero =>
      simp at hk; subst hk
      cases l with
      | nil => simp at hk1
      | cons u l => simp at hk1; subst hk1; exact (sg_cons g5).1
    | succ k => simp at hk; simp at hk1; exact ih g5 hk hk1
theorem sg_last {l : List Rg} : ∀ {x y : Int} {k : Nat} {r : Rg}, soundGo x l = some y → l[k]? = some r → l.length = k + 1 → r.b + 1 = y := by
  induction l with
  | nil => intro x y k r _ hk; simp at hk
  | cons t l ih =>
    intro x y k r hs hk hl
    obtain ⟨g1, g2, g3, g4, g5⟩ := sg_cons hs
    cases k with
    | zero =>
      simp at hk; subst hk
      have : l = [] := List.eq_nil_of_length_eq_zero (by simpa using hl)
      subst this
      rw [soundGo] at g5; injection g5
    | succ k => simp at hk; exact ih g5 hk (by simpa using hl)
theorem setLast_app (o : List Rg) (p : Rg) (last : Int) : setLast (o ++ [p]) last = o ++ [⟨p.a, last, p.c, p.d⟩] := by simp [setLast]
theorem last_split {out : List Rg} {p : Rg} (h : out.getLast? = some p) : ∃ o, out = o ++ [p] := by
  have hne : out ≠ [] := by intro e; subst e; simp at h
  refine ⟨out.dropLast, ?_⟩
  rw [List.getLast?_eq_some_getLast hne] at h
  injection h with h
  rw [← h]; exact (List.dropLast_concat_getLast hne).symm

section
variable {l m : List Rg} {self : Int} (sl : soundL l = true) (sm : soundL m = true)
include sl sm
theorem minv_start : MInv l m self 0 0 [] (-1) := by
  have l0 := sound_pos sl
  have m0 := sound_pos sm
  have e1 : l[0]? = some l[0] := List.getElem?_eq_getElem l0
  have e2 : m[0]? = some m[0] := List.getElem?_eq_getElem m0
  have a1 : (l[0]).a = 0 := by
    have := (sound_parts sl).1
    cases l with
    | nil => simp at l0
    | cons x l => exact (sg_cons this).1
  have a2 : (m[0]).a = 0 := by
    have := (sound_parts sm).1
    cases m with
    | nil => simp at m0
    | cons x m => exact (sg_cons this).1
  have g1 := sg_mem (sound_parts sl).1 _ (List.mem_of_getElem? e1)
  have g2 := sg_mem (sound_parts sm).1 _ (List.mem_of_getElem? e2)
  have hp : posP l m 0 0 = 0 := by unfold posP; rw [e1, e2]; simp only [a1, a2]; rfl
  refine ⟨Nat.zero_le _, Nat.zero_le _, ⟨fun _ => m0, fun _ => l0⟩, ?_, ?_, by intro j x h; omega, by intro j x h; omega, by rw [hp]; rfl, .inl ⟨rfl, rfl⟩, by simp, by simp, ⟨_, Nat.le_refl _, rfl⟩⟩
  · intro x hx; rw [e1] at hx; injection hx with hx; subst hx; rw [hp]; omega
  · intro x hx; rw [e2] at hx; injection hx with hx; subst hx; rw [hp]; omega

theorem pos_next {i k : Nat} {out : List Rg} {from_ : Int} (h : MInv l m self i k out from_) {x y : Rg} (hx : l[i]? = some x) (hy : m[k]? = some y) :
    posP l m (nextI x y i) (nextK x y k) = min x.b y.b + 1 ∧ (nextI x y i < l.length ↔ nextK x y k < m.length) ∧
    (∀ x', l[nextI x y i]? = some x' → x'.a ≤ min x.b y.b + 1 ∧ min x.b y.b + 1 ≤ x'.b) ∧ (∀ y', m[nextK x y k]? = some y' → y'.a ≤ min x.b y.b + 1 ∧ min x.b y.b + 1 ≤ y'.b) := by
  have s1 := (sound_parts sl).1
  have s2 := (sound_parts sm).1
  have g1 := sg_mem s1 _ (List.mem_of_getElem? hx)
  have g2 := sg_mem s2 _ (List.mem_of_getElem? hy)
  obtain ⟨hil, _⟩ := List.getElem?_eq_some_iff.1 hx
  obtain ⟨hkm, _⟩ := List.getElem?_eq_some_iff.1 hy
  have p1 := h.hl x hx
  have p2 := h.hm y hy
  have lastx : l.length = i + 1 → x.b = 4294967295 := fun e => by have := sg_last s1 hx e; omega
  have lasty : m.length = k + 1 → y.b = 4294967295 := fun e => by have := sg_last s2 hy e; omega
  have notx : i + 1 < l.length → x.b < 4294967295 := fun e => by
    have hx1 : l[i + 1]? = some l[i + 1] := List.getElem?_eq_getElem e
    have := sg_next s1 hx hx1
    have := sg_mem s1 _ (List.mem_of_getElem? hx1)
    omega
  have noty : k + 1 < m.length → y.b < 4294967295 := fun e => by
    have hy1 : m[k + 1]? = some m[k + 1] := List.getElem?_eq_getElem e
    have := sg_next s2 hy hy1
    have := sg_mem s2 _ (List.mem_of_getElem? hy1)
    omega
  have ax : ∀ x', l[i + 1]? = some x' → x'.a = x.b + 1 ∧ x'.a ≤ x'.b := fun x' hx' => ⟨sg_next s1 hx hx', (sg_mem s1 _ (List.mem_of_getElem? hx')).2.1⟩
  have ay : ∀ y', m[k + 1]? = some y' → y'.a = y.b + 1 ∧ y'.a ≤ y'.b := fun y' hy' => ⟨sg_next s2 hy hy', (sg_mem s2 _ (List.mem_of_getElem? hy')).2.1⟩
  have pos : ∀ i' k' : Nat, (∀ x' y', l[i']? = some x' → m[k']? = some y' → max x'.a y'.a = min x.b y.b + 1) → (l[i']? = none ∨ m[k']? = none → min x.b y.b = 4294967295) → posP l m i' k' = min x.b y.b + 1 := by
    intro i' k' h1 h2
    unfold posP
    cases e1 : l[i']? with
    | none => simp only; rw [h2 (.inl e1)]; rfl
    | some x' =>
      cases e2 : m[k']? with
      | none => simp only; rw [h2 (.inr e2)]; rfl
      | some y' => exact h1 x' y' e1 e2
  by_cases c1 : x.b = min x.b y.b
  · by_cases c2 : y.b = min x.b y.b
    · simp only [nextI, nextK, if_pos c1, if_pos c2]
      have hxy : x.b = y.b := by omega
      refine ⟨pos _ _ ?_ ?_, ?_, ?_, ?_⟩
      · intro x' y' e1 e2; have := ax _ e1; have := ay _ e2; omega
      · rintro (e | e)
        · have := List.getElem?_eq_none_iff.1 e; have := lastx (by omega); omega
        · have := List.getElem?_eq_none_iff.1 e; have := lasty (by omega); omega
      · constructor
        · intro e; have := notx e; by_cases q : k + 1 < m.length
          · exact q
          · have := lasty (by omega); omega
        · intro e; have := noty e; by_cases q : i + 1 < l.length
          · exact q
          · have := lastx (by omega); omega
      · intro x' e; have := ax _ e; omega
      · intro y' e; have := ay _ e; omega
    · simp only [nextI, nextK, if_pos c1, if_neg c2]
      have hlt : x.b < y.b := by omega
      have hi1 : i + 1 < l.length := by
        by_cases q : i + 1 < l.length
        · exact q
        · have := lastx (by omega); omega
      refine ⟨pos _ _ ?_ ?_, ⟨fun _ => hkm, fun _ => hi1⟩, ?_, ?_⟩
      · intro x' y' e1 e2; rw [hy] at e2; injection e2 with e2; subst e2; have := ax _ e1; omega
      · rintro (e | e)
        · have := List.getElem?_eq_none_iff.1 e; omega
        · rw [hy] at e; cases e
      · intro x' e; have := ax _ e; omega
      · intro y' e; rw [hy] at e; injection e with e; subst e; omega
  · have c2 : y.b = min x.b y.b := by omega
    simp only [nextI, nextK, if_neg c1, if_pos c2]
    have hlt : y.b < x.b := by omega
    have hk1 : k + 1 < m.length := by
      by_cases q : k + 1 < m.length
      · exact q
      · have := lasty (by omega); omega
    refine ⟨pos _ _ ?_ ?_, ⟨fun _ => hk1, fun _ => hil⟩, ?_, ?_⟩
    · intro x' y' e1 e2; rw [hx] at e1; injection e1 with e1; subst e1; have := ay _ e2; omega
    · rintro (e | e)
      · rw [hx] at e; cases e
      · have := List.getElem?_eq_none_iff.1 e; omega
    · intro x' e; rw [hx] at e; injection e with e; subst e; omega
    · intro y' e; have := ay _ e; omega

theorem minv_step {i k : Nat} {out : List Rg} {from_ : Int} (h : MInv l m self i k out from_) {x y : Rg} (hx : l[i]? = some x) (hy : m[k]? = some y) :
    MInv l m self (nextI x y i) (nextK x y k) (outP x y self i k out from_) (whoP x y self i k) := by
  obtain ⟨n1, n2, n3, n4⟩ := pos_next sl sm h hx hy
  have s1 := (sound_parts sl).1
  have s2 := (sound_parts sm).1
  have z1 := (sound_parts sl).2
  have z2 := (sound_parts sm).2
  have g1 := sg_mem s1 _ (List.mem_of_getElem? hx)
  have g2 := sg_mem s2 _ (List.mem_of_getElem? hy)
  obtain ⟨hil, _⟩ := List.getElem?_eq_some_iff.1 hx
  obtain ⟨hkm, _⟩ := List.getElem?_eq_some_iff.1 hy
  have hp : posP l m i k = max x.a y.a := by unfold posP; rw [hx, hy]
  have p1 := h.hl x hx
  have p2 := h.hm y hy
  have hpm : posP l m i k ≤ min x.b y.b := by omega
  have bi : i ≤ nextI x y i ∧ nextI x y i ≤ i + 1 := by unfold nextI; split <;> omega
  have bk : k ≤ nextK x y k ∧ nextK x y k ≤ k + 1 := by unfold nextK; split <;> omega
  have bik : i + k + 1 ≤ nextI x y i + nextK x y k := by unfold nextI nextK; split <;> split <;> omega
  have hpo : ownedL (pickP x y self) = true := by unfold pickP; split <;> simp_all
  have hwho : ofP l m (whoP x y self i k) = some (pickP x y self) ∧ 0 ≤ whoP x y self i k ∧ whoP x y self i k < 2000 := by
    unfold ofP whoP pickP
    split
    · rw [if_neg (by omega), if_neg (by omega), show ((1000 + (k : Int) - 1000).toNat) = k by omega]; exact ⟨hy, by omega, by omega⟩
    · rw [if_neg (by omega), if_pos (by omega), show ((i : Int).toNat) = i by omega]; exact ⟨hx, by omega, by omega⟩
  have hsem : ∀ hh : Int, posP l m i k ≤ hh → hh ≤ min x.b y.b → ∃ x' ∈ l, ∃ y' ∈ m, has hh x' = true ∧ has hh y' = true ∧ (pickP x y self).c = (pickP x' y' self).c ∧ (pickP x y self).d = (pickP x' y' self).d :=
    fun hh a b => ⟨x, List.mem_of_getElem? hx, y, List.mem_of_getElem? hy, has_iff.2 ⟨by omega, by omega⟩, has_iff.2 ⟨by omega, by omega⟩, rfl, rfl⟩
  refine ⟨by omega, by omega, n2, fun x' e => by rw [n1]; exact n3 x' e, fun y' e => by rw [n1]; exact n4 y' e, ?_, ?_, ?_, ?_, ?_, ?_, ?_⟩
  · intro j x' hj e
    rw [n1]
    by_cases hji : j < i
    · have := h.pl j x' hji e; omega
    · have : j = i := by omega
      subst this
      rw [hx] at e; injection e with e; subst e
      unfold nextI at hj; split at hj <;> omega
  · intro j y' hj e
    rw [n1]
    by_cases hji : j < k
    · have := h.pm j y' hji e; omega
    · have : j = k := by omega
      subst this
      rw [hy] at e; injection e with e; subst e
      unfold nextK at hj; split at hj <;> omega
  · rw [n1]
    unfold outP
    split
    · rename_i hw
      rcases h.fr with ⟨_, e2⟩ | ⟨p, r, e1, e2, e3, e4, e5, e6⟩
      · omega
      · obtain ⟨o, rfl⟩ := last_split e1
        obtain ⟨q, q1, q2⟩ := sg_app_inv h.so
        obtain ⟨t1, t2, t3, t4, t5⟩ := sg_cons q2
        rw [soundGo] at t5; injection t5 with t5
        rw [setLast_app]
        refine sg_app q1 ?_
        rw [sg_mk (by simpa using t1) (by simp only; omega) (by simp only; omega) (by simpa [ownedL] using t4)]
        rfl
    · refine sg_app h.so ?_
      rw [sg_mk (by simp only [pieceP]; omega) (by simp only [pieceP]; omega) (by simp only [pieceP]; omega) (by exact hpo)]
      rfl
  · right
    unfold outP
    split
    · rename_i hw
      rcases h.fr with ⟨_, e2⟩ | ⟨p, r, e1, e2, e3, e4, e5, e6⟩
      · omega
      · obtain ⟨o, rfl⟩ := last_split e1
        rw [← hw, hwho.1] at e2
        injection e2 with e2
        subst e2
        exact ⟨⟨p.a, min x.b y.b, p.c, p.d⟩, _, by rw [setLast_app]; simp, hwho.1, hwho.2.1, hwho.2.2, e5, e6⟩
    · exact ⟨pieceP x y self, _, by simp, hwho.1, hwho.2.1, hwho.2.2, rfl, rfl⟩
  · unfold outP
    have := h.len
    split
    · rename_i hw
      rcases h.fr with ⟨_, e2⟩ | ⟨p, r, e1, e2, e3, e4, e5, e6⟩
      · omega
      · obtain ⟨o, rfl⟩ := last_split e1
        rw [setLast_app]; simp at this ⊢; omega
    · simp; omega
  · intro q hq hh hhq
    unfold outP at hq
    split at hq
    · rename_i hw
      rcases h.fr with ⟨_, e2⟩ | ⟨p, r, e1, e2, e3, e4, e5, e6⟩
      · omega
      · obtain ⟨o, rfl⟩ := last_split e1
        rw [← hw, hwho.1] at e2
        injection e2 with e2
        subst e2
        rw [setLast_app] at hq
        rcases List.mem_append.1 hq with hq | hq
        · exact h.sem q (by simp [hq]) hh hhq
        · simp at hq
          subst hq
          obtain ⟨b1, b2⟩ := has_iff.1 hhq
          simp only at b1 b2
          by_cases hb : hh ≤ p.b
          · exact h.sem p (by simp) hh (has_iff.2 ⟨b1, hb⟩)
          · obtain ⟨_, q1, q2⟩ := sg_app_inv h.so
            obtain ⟨_, _, _, _, t5⟩ := sg_cons q2
            rw [soundGo] at t5; injection t5 with t5
            obtain ⟨x', hx', y', hy', a1, a2, a3, a4⟩ := hsem hh (by omega) b2
            exact ⟨x', hx', y', hy', a1, a2, by simp only; rw [e5]; exact a3, by simp only; rw [e6]; exact a4⟩
    · rcases List.mem_append.1 hq with hq | hq
      · exact h.sem q hq hh hhq
      · simp at hq
        subst hq
        obtain ⟨b1, b2⟩ := has_iff.1 hhq
        simp only [pieceP] at b1 b2
        exact hsem hh (by omega) b2
  · obtain ⟨f, hf, hg⟩ := h.go
    cases f with
    | zero => omega
    | succ f =>
      refine ⟨f, by omega, ?_⟩
      rw [goM, hx, hy] at hg
      exact hg

omit sl sm in
theorem minv_done {k : Nat} {out : List Rg} {from_ : Int} {i : Nat} (h : MInv l m self i k out from_) (hi : l.length ≤ i) :
    out = mergeL l m self ∧ soundGo 0 out = some 4294967296 ∧ out.length ≤ l.length + m.length := by
  obtain ⟨f, _, hg⟩ := h.go
  rw [goM_end hi] at hg
  refine ⟨hg, ?_, by have := h.len; have := h.hi; have := h.hk; omega⟩
  have := h.so
  unfold posP at this
  rw [List.getElem?_eq_none hi] at this
  exact this
end

/-- With itself a ring is itself. -/
theorem goM_self {l : List Rg} {self : Int} : ∀ (f i : Nat), l.length - i ≤ f → i ≤ l.length → goM l l self f i i (l.take i) ((i : Int) - 1) = l
  | 0, i, hf, hi => by rw [goM, List.take_of_length_le (by omega)]
  | f + 1, i, hf, hi => by
    rw [goM]
    cases hx : l[i]? with
    | none => simp only; rw [List.take_of_length_le (List.getElem?_eq_none_iff.1 hx)]
    | some x =>
      simp only
      obtain ⟨hil, _⟩ := List.getElem?_eq_some_iff.1 hx
      have ht : takeB x x self = false := by simp [takeB]
      have e1 : nextI x x i = i + 1 := by simp [nextI]
      have e2 : nextK x x i = i + 1 := by simp [nextK]
      have e3 : whoP x x self i i = ((i + 1 : Nat) : Int) - 1 := by unfold whoP; rw [ht]; simp
      have e4 : outP x x self i i (l.take i) ((i : Int) - 1) = l.take (i + 1) := by
        unfold outP
        rw [if_neg (by rw [e3]; omega), List.take_add_one, hx]
        simp [pieceP, pickP, ht]
      rw [e1, e2, e3, e4]
      exact goM_self f (i + 1) (by omega) (by omega)
theorem merge_self (l : List Rg) (self : Int) : mergeR l l self = l := by
  unfold mergeR
  split
  · exact goM_self (l.length + l.length) 0 (by omega) (by omega)
  · rfl
theorem merge_nil (l : List Rg) (self : Int) : mergeR l [] self = l := by
  unfold mergeR
  rw [if_neg]
  rintro ⟨_, h, _⟩
  have := sound_pos h
  simp at this
/-- What there is where the loop has ended. -/
theorem merge_is {l m : List Rg} {self : Int} (sl : soundL l = true) (sm : soundL m = true) : ∃ i k from_, MInv l m self i k (mergeL l m self) from_ ∧ l.length ≤ i := by
  have key : ∀ (n i k : Nat) (out : List Rg) (from_ : Int), (l.length - i) + (m.length - k) ≤ n → MInv l m self i k out from_ → ∃ i k from_, MInv l m self i k (mergeL l m self) from_ ∧ l.length ≤ i := by
    intro n
    induction n with
    | zero =>
      intro i k out from_ hn h
      have e := (minv_done h (by omega)).1
      subst e
      exact ⟨i, k, from_, h, by omega⟩
    | succ n ih =>
      intro i k out from_ hn h
      by_cases hi : i < l.length
      · have hk := h.hik.1 hi
        have hx : l[i]? = some l[i] := List.getElem?_eq_getElem hi
        have hy : m[k]? = some m[k] := List.getElem?_eq_getElem hk
        refine ih _ _ _ _ ?_ (minv_step sl sm h hx hy)
        unfold nextI nextK
        split <;> split <;> omega
      · have e := (minv_done h (by omega)).1
        subst e
        exact ⟨i, k, from_, h, by omega⟩
  exact key _ 0 0 [] (-1) (Nat.le_refl _) (minv_start sl sm)
theorem merge_sound {l m : List Rg} {self : Int} (sl : soundL l = true) : soundL (mergeR l m self) = true := by
  unfold mergeR
  split
  · rename_i h
    obtain ⟨i, k, fr, h1, h2⟩ := merge_is (self := self) h.1 h.2.1
    exact sound_mk (minv_done h1 h2).2.1 h.2.2
  · exact sl
/-- The range that has a hash, in what is put together. -/
theorem merge_find {l m : List Rg} {self h : Int} (sl : soundL l = true) (sm : soundL m = true) (h0 : 0 ≤ h) (h1 : h ≤ 4294967295) :
    ∃ x y z, findL l h = some x ∧ findL m h = some y ∧ findL (mergeR l m self) h = some z ∧ ((z.c = x.c ∧ z.d = x.d) ∨ (z.c = y.c ∧ z.d = y.d ∧ takeB x y self = true)) := by
  obtain ⟨i1, x, hx, hhx, fx⟩ := each_found sl h0 h1
  obtain ⟨i2, y, hy, hhy, fy⟩ := each_found sm h0 h1
  obtain ⟨i3, z, hz, hhz, fz⟩ := each_found (merge_sound (m := m) (self := self) sl) h0 h1
  refine ⟨x, y, z, fx, fy, fz, ?_⟩
  unfold mergeR at hz
  split at hz
  · obtain ⟨i, k, fr, g1, g2⟩ := merge_is (self := self) sl sm
    obtain ⟨x', mx', y', my', a1, a2, a3, a4⟩ := g1.sem z (List.mem_of_getElem? hz) h hhz
    obtain ⟨j1, hj1, e1⟩ := List.getElem_of_mem mx'
    obtain ⟨j2, hj2, e2⟩ := List.getElem_of_mem my'
    have b1 : l[j1]? = some x' := by rw [List.getElem?_eq_getElem hj1, e1]
    have b2 : m[j2]? = some y' := by rw [List.getElem?_eq_getElem hj2, e2]
    have c1 := sg_uniq (sound_parts sl).1 hx b1 hhx a1
    have c2 := sg_uniq (sound_parts sm).1 hy b2 hhy a2
    subst c1 c2
    rw [hx] at b1; injection b1 with b1; subst b1
    rw [hy] at b2; injection b2 with b2; subst b2
    unfold pickP at a3 a4
    split at a3
    · rename_i ht
      rw [if_pos ht] at a4
      right; exact ⟨a3, a4, ht⟩
    · rename_i ht
      rw [if_neg ht] at a4
      left; exact ⟨a3, a4⟩
  · have := sg_uniq (sound_parts sl).1 hx hz hhx hhz
    subst this
    rw [hx] at hz; injection hz with hz; subst hz
    left; exact ⟨rfl, rfl⟩
end Go.Proofs.Ytbgnmkjjfaepiaa
