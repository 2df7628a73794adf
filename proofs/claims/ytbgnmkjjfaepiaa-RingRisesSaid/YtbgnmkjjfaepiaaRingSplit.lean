import Derived.Test.YtbgnmkjjfaepiaaRingConcat
import Derived.Test.YtbgnmkjjfaepiaaRingPlain
import Derived.Deep.RegionLaw
import Derived.RegionTactic
import Derived.BigRegion
namespace Go.Proofs.Ytbgnmkjjfaepiaa
open Go.RowKit
set_option linter.unusedVariables false

def splitR (r : Rg) (h : Int) : List Rg := [⟨r.a, h - 1, r.c, r.d + 1⟩, ⟨h, r.b, r.c, r.d + 1⟩]
def splitL (l : List Rg) (h : Int) : List Rg × Int :=
  if soundL l = false then ([], 1) else
  match l.findIdx? (has h) with
  | none => ([], 1)
  | some k => if (l[k]?.getD zeroR).a = h ∨ (l[k]?.getD zeroR).d = 1099511627776 then ([], 1) else if 64 ≤ l.length then ([], 2) else (l.take k ++ splitR (l[k]?.getD zeroR) h ++ l.drop (k + 1), 0)

theorem rowCells_cons (x : Rg) (l : List Rg) : rowCells (x :: l) = .int .i64 x.a :: .int .i64 x.b :: .int .i64 x.c :: .int .i64 x.d :: rowCells l := rfl
theorem rowCells_take (l : List Rg) (k : Nat) : rowCells (l.take k) = (rowCells l).take (k * 4) := by
  induction l generalizing k with
  | nil => simp [rowCells]
  | cons x l ih =>
    cases k with
    | zero => simp [rowCells]
    | succ k => rw [List.take_succ_cons, rowCells_cons, rowCells_cons, ih, show (k + 1) * 4 = k * 4 + 1 + 1 + 1 + 1 by omega, List.take_succ_cons, List.take_succ_cons, List.take_succ_cons, List.take_succ_cons]
theorem rowCells_drop (l : List Rg) (k : Nat) : rowCells (l.drop k) = (rowCells l).drop (k * 4) := by
  induction l generalizing k with
  | nil => simp [rowCells]
  | cons x l ih =>
    cases k with
    | zero => simp
    | succ k => rw [List.drop_succ_cons, rowCells_cons, ih, show (k + 1) * 4 = k * 4 + 1 + 1 + 1 + 1 by omega, List.drop_succ_cons, List.drop_succ_cons, List.drop_succ_cons, List.drop_succ_cons]
theorem reads_newRs (w : World) (rs : List Rg) (e : TypeId) : Reads (w.alloc (.cells (rowCells rs).toArray e)) (w.heap.size + 1) 4 (some ⟨w.heap.size, 0, none⟩) rs.length (rowCells rs) := by
  refine ⟨rowCells_length rs, fun _ => ⟨_, rfl, by simp, fun j u hu => ?_⟩⟩
  rw [Addr.add_mid, Nat.zero_add, World.cell?_alloc_at _ _ _ _ rfl]
  simpa using hu
theorem split_concat (W0 : World) (B : Nat) (hB : B = W0.heap.size) (ad : Addr) (n c k : Nat) (l : List Rg) (a1 a2 a3 a4 b1 b2 b3 b4 : Int) (e1 e2 : TypeId) (hr : Reads W0 W0.heap.size 4 (some ad) n (rowCells l)) (hl : l.length = n) (hk : k < n) (hnc : n ≤ c) (h64 : n ≤ 64) :
    Calls Try.prog 35 #[.slice (some ⟨B + 1, 0, none⟩) 3 3]
      (((W0.alloc (.cells #[.int .i64 a1, .int .i64 a2, .int .i64 a3, .int .i64 a4, .int .i64 b1, .int .i64 b2, .int .i64 b3, .int .i64 b4] e1)).alloc
        (.cells #[.slice (some ad) k c, .slice (some ⟨B, 0, none⟩) 2 2, .slice (if c = k + 1 then some ad else some (ad.add ((k + 1) * 4))) (n - (k + 1)) (c - (k + 1))] e2)).drew.drew)
      fun e w' => ∃ A' c', e = .returned (.slice A' (n + 1) c') ∧ n + 1 ≤ c' ∧ c' ≤ maxLen ∧
        Reads w' w'.heap.size 4 A' (n + 1) (rowCells (l.take k ++ [Rg.mk a1 a2 a3 a4, Rg.mk b1 b2 b3 b4] ++ l.drop (k + 1))) ∧ Below W0.heap.size W0 w' ∧ Owns w' W0.heap.size 31 4 (.slice A' (n + 1) c') (n + 1) (rowCells (l.take k ++ [Rg.mk a1 a2 a3 a4, Rg.mk b1 b2 b3 b4] ++ l.drop (k + 1))) := by
  subst hB
  have h1 := reads_newRs W0 [Rg.mk a1 a2 a3 a4, Rg.mk b1 b2 b3 b4] e1
  have t1 := (hr.take_ (k := k) (by omega))
  have t3 := (hr.cut (k := k + 1) (cap := c) (by omega) hnc)
  rw [← rowCells_take] at t1
  rw [← rowCells_drop] at t3
  have hb1 : Below W0.heap.size W0 (W0.alloc (.cells (rowCells [Rg.mk a1 a2 a3 a4, Rg.mk b1 b2 b3 b4]).toArray e1)) := (Below.refl _ _).alloc (Nat.le_refl _) _
  have hW1 : W0.alloc (.cells #[.int .i64 a1, .int .i64 a2, .int .i64 a3, .int .i64 a4, .int .i64 b1, .int .i64 b2, .int .i64 b3, .int .i64 b4] e1) = W0.alloc (.cells (rowCells [Rg.mk a1 a2 a3 a4, Rg.mk b1 b2 b3 b4]).toArray e1) := rfl
  rw [hW1]
  have hz : (W0.alloc (.cells (rowCells [Rg.mk a1 a2 a3 a4, Rg.mk b1 b2 b3 b4]).toArray e1)).heap.size = W0.heap.size + 1 := alloc_size _ _
  generalize W0.alloc (.cells (rowCells [Rg.mk a1 a2 a3 a4, Rg.mk b1 b2 b3 b4]).toArray e1) = W1 at *
  clear hW1
  have h2 := reads_new W1 [.slice (some ad) k c, .slice (some ⟨W0.heap.size, 0, none⟩) 2 2, .slice (if c = k + 1 then some ad else some (ad.add ((k + 1) * 4))) (n - (k + 1)) (c - (k + 1))] e2
  have hb2 : Below W1.heap.size W1 (W1.alloc (.cells #[.slice (some ad) k c, .slice (some ⟨W0.heap.size, 0, none⟩) 2 2, .slice (if c = k + 1 then some ad else some (ad.add ((k + 1) * 4))) (n - (k + 1)) (c - (k + 1))] e2)).drew.drew := (((Below.refl _ _).alloc (Nat.le_refl _) _).drew).drew
  have hz2 : (W1.alloc (.cells #[.slice (some ad) k c, .slice (some ⟨W0.heap.size, 0, none⟩) 2 2, .slice (if c = k + 1 then some ad else some (ad.add ((k + 1) * 4))) (n - (k + 1)) (c - (k + 1))] e2)).drew.drew.heap.size = W1.heap.size + 1 := alloc_size _ _
  have h2' : Reads (W1.alloc (.cells #[.slice (some ad) k c, .slice (some ⟨W0.heap.size, 0, none⟩) 2 2, .slice (if c = k + 1 then some ad else some (ad.add ((k + 1) * 4))) (n - (k + 1)) (c - (k + 1))] e2)).drew.drew (W1.heap.size + 1) 1 (some ⟨W1.heap.size, 0, none⟩) 3 [.slice (some ad) k c, .slice (some ⟨W0.heap.size, 0, none⟩) 2 2, .slice (if c = k + 1 then some ad else some (ad.add ((k + 1) * 4))) (n - (k + 1)) (c - (k + 1))] := h2
  generalize (W1.alloc (.cells #[.slice (some ad) k c, .slice (some ⟨W0.heap.size, 0, none⟩) 2 2, .slice (if c = k + 1 then some ad else some (ad.add ((k + 1) * 4))) (n - (k + 1)) (c - (k + 1))] e2)).drew.drew = W at *
  clear h2
  rw [hz] at h2' hb2 hz2
  have hb0 : Below W0.heap.size W0 W := hb1.trans (hb2.mono (by omega))
  have hA : AreR W W.heap.size [.slice (some ad) k c, .slice (some ⟨W0.heap.size, 0, none⟩) 2 2, .slice (if c = k + 1 then some ad else some (ad.add ((k + 1) * 4))) (n - (k + 1)) (c - (k + 1))] [l.take k, [Rg.mk a1 a2 a3 a4, Rg.mk b1 b2 b3 b4], l.drop (k + 1)] := by
    refine ⟨rfl, fun i v m hv hm => ?_⟩
    have l1 : (l.take k).length = k := by rw [List.length_take]; omega
    have l3 : (l.drop (k + 1)).length = n - (k + 1) := by rw [List.length_drop]; omega
    match i, hv, hm with
    | 0, hv, hm =>
      injection hv with hv; injection hm with hm; subst hv hm
      exact ⟨some ad, c, by rw [l1], by rw [l1]; exact (t1.below hb0).more (by omega)⟩
    | 1, hv, hm =>
      injection hv with hv; injection hm with hm; subst hv hm
      exact ⟨_, 2, rfl, (h1.below hb2).more (by omega)⟩
    | 2, hv, hm =>
      injection hv with hv; injection hm with hm; subst hv hm
      exact ⟨_, c - (k + 1), by rw [l3], by rw [l3]; exact (t3.below hb0).more (by omega)⟩
    | (i + 3), hv, hm => simp at hv
  have hfl : [l.take k, [Rg.mk a1 a2 a3 a4, Rg.mk b1 b2 b3 b4], l.drop (k + 1)].flatten = l.take k ++ [Rg.mk a1 a2 a3 a4, Rg.mk b1 b2 b3 b4] ++ l.drop (k + 1) := by simp
  have hlen : (l.take k ++ [Rg.mk a1 a2 a3 a4, Rg.mk b1 b2 b3 b4] ++ l.drop (k + 1)).length = n + 1 := by
    simp only [List.length_append, List.length_take, List.length_drop, List.length_cons, List.length_nil]; omega
  have := concat_any W (some ⟨W0.heap.size + 1, 0, none⟩) 3 3 _ _ (by rw [hz2]; exact h2') hA (by omega) (by rw [hfl, hlen]; omega) (by rw [hfl, hlen]; omega)
  rw [hfl, hlen] at this
  refine this.mono ?_
  rintro e w' ⟨A', c', rfl, g1, g2, g3, g4, g5⟩
  exact ⟨A', c', rfl, g1, g2, g3, hb0.trans (g4.mono (by omega)), g5.more (by omega)⟩

/-- A row of ranges of the call's own and a number are handed back. -/
def RetRowO (w : World) (l : List Rg) (err : Int) (e : Ending) (w' : World) : Prop :=
  ∃ A c, e = .returned (.tuple #[.slice A l.length c, .int .i64 err]) ∧ l.length ≤ c ∧ c ≤ maxLen ∧ Owns w' w.heap.size 31 4 (.slice A l.length c) l.length (rowCells l) ∧ Below w.heap.size w w'
theorem RetRowO.row {w : World} {l : List Rg} {err : Int} {e : Ending} {w' : World} (h : RetRowO w l err e w') : RetRow w l err e w' := by
  obtain ⟨A, c, h1, h2, h3, h4, h5⟩ := h
  obtain ⟨A', c', e', _, _, hr⟩ := h4.form
  injection e' with e1 _ e3
  subst e1 e3
  exact ⟨A, c, h1, h2, h3, hr, h5⟩
section
variable (w : World) (A : Option Addr) (n c : Nat) (l : List Rg) (hsh : Int) (hr : Reads w w.heap.size 4 A n (rowCells l)) (hw : ∀ r ∈ l, r.wf) (hl : l.length = n) (hnc : n ≤ c) (hm : c ≤ maxLen) (hh0 : -9223372036854775808 ≤ hsh) (hh1 : hsh ≤ 9223372036854775807)
include hr hw hl hnc hm hh0 hh1

set_option maxRecDepth 100000 in
set_option maxHeartbeats 4000000 in
theorem split_own : Calls Try.prog 25 #[.slice A n c, .int .i64 hsh] w (RetRowO w (splitL l hsh).1 (splitL l hsh).2) := by
  have hn : n ≤ maxLen := Nat.le_trans hnc hm
  obtain ⟨i, HI⟩ : ∃ i, Hid (atI l hsh = i) := ⟨_, Lib.hid rfl⟩
  have HA : Hid (∀ W, Below w.heap.size w W → Calls Try.prog 29 #[.slice A n c, .int .i64 hsh] W (RetI W i)) := Lib.hid fun W hb => by
    rw [← HI.out]; exact at_any W A n c l hsh ((hr.below hb).more hb.size) hw hl hn
  have HF : Hid ((i = -1 ∧ splitL l hsh = ([], 1)) ∨ ∃ (k : Nat) (x : Rg), i = (k : Int) ∧ l[k]? = some x ∧ soundL l = true ∧ l.findIdx? (has hsh) = some k ∧ k < n) := Lib.hid (by
    rw [← HI.out]
    unfold atI idxL splitL
    cases hs : soundL l
    · left; simp
    · cases hf : l.findIdx? (has hsh) with
      | none => left; simp
      | some k =>
        right
        have hk : k < l.length := by rw [List.findIdx?_eq_some_iff_getElem] at hf; exact hf.1
        exact ⟨k, l[k], rfl, List.getElem?_eq_getElem hk, rfl, rfl, by omega⟩)
  have HR := Lib.hid hr
  have HL := Lib.hid hl
  have HW := Lib.hid hw
  have hn' := hn
  unfold maxLen at hn'
  have HM := Lib.hid hm
  clear hr hw hl hm
  rcases HF.out with ⟨rfl, hf⟩ | ⟨k, x, rfl, hxk, hs, hf, hk⟩
  · have HE := Lib.hid hf
    clear hf
    go_enter Try.func25, Try.ntmps25
    go_wp2_with (first
      | (refine wpList_unguard rfl ?_)
      | (go_at_call 29; refine (HA.out _ (Below.refl _ _)).mono ?_; rintro e w1 ⟨rfl, hb1⟩))
    go_ret2
    rw [HE.out]
    exact ⟨none, 0, rfl, Nat.le_refl _, Nat.zero_le _, Owns.nil_ _ _ _ _, hb1⟩
  have hsg := (sg_mem (sound_parts hs).1 x (List.mem_of_getElem? hxk))
  have h64 := (sound_parts hs).2
  obtain ⟨xa, xb, xc, xd⟩ := x
  have hxo : 1 ≤ xc ∧ xc ≤ 5 ∧ 1 ≤ xd ∧ xd ≤ 1099511627776 := by have := hsg.2.2.2.2; simp [ownedL] at this; omega
  have hxh : xa ≤ hsh ∧ hsh ≤ xb := by
    obtain ⟨hkl, hp, _⟩ := List.findIdx?_eq_some_iff_getElem.1 hf
    rw [(List.getElem?_eq_some_iff.1 hxk).2] at hp
    simp [has] at hp
    omega
  have hxb : xa ≤ xb ∧ xb ≤ 4294967295 ∧ 0 ≤ xa := ⟨hsg.2.1, hsg.2.2.2.1, hsg.1⟩
  have HE : Hid (splitL l hsh = if xa = hsh ∨ xd = 1099511627776 then ([], 1) else if 64 ≤ n then ([], 2) else (l.take k ++ splitR ⟨xa, xb, xc, xd⟩ hsh ++ l.drop (k + 1), 0)) := Lib.hid (by
    unfold splitL
    rw [if_neg (by rw [hs]; simp), hf]
    simp only [hxk, Option.getD_some, HL.out])
  obtain ⟨ad, rfl, hab, hxa⟩ := HR.out.range hxk hk
  have HX : Hid (∀ W, Below w.heap.size w W → W.cell? (ad.add (k * 4)) = some (.int .i64 xa) ∧ W.cell? ⟨(ad.add (k * 4)).block, (ad.add (k * 4)).off + 1, none⟩ = some (.int .i64 xb) ∧
      W.cell? ⟨(ad.add (k * 4)).block, (ad.add (k * 4)).off + 2, none⟩ = some (.int .i64 xc) ∧ W.cell? ⟨(ad.add (k * 4)).block, (ad.add (k * 4)).off + 3, none⟩ = some (.int .i64 xd)) :=
    Lib.hid fun W hb => by
      have hsh := range_below hxa hb (by rw [block_of_add]; exact hab)
      have h0 := hsh 0 _ rfl
      have h1 := hsh 1 _ rfl
      have h2 := hsh 2 _ rfl
      have h3 := hsh 3 _ rfl
      rw [add_of_add, Nat.add_zero] at h0
      rw [add1 _ 1 (by omega)] at h1
      rw [add1 _ 2 (by omega)] at h2
      rw [add1 _ 3 (by omega)] at h3
      exact ⟨h0, h1, h2, h3⟩
  have hneg : decide ((k : Int) < 0) = false := by simp
  clear hxa hsg hf
  have HXK := Lib.hid hxk
  clear hxk hs
  have hbk : (ad.add (k * 4)).block < w.heap.size := by rw [block_of_add]; exact hab
  go_enter Try.func25, Try.ntmps25
  go_upto_region 2 with (go_at_call 29; refine (HA.out _ (Below.refl _ _)).mono ?_; rintro e w1 ⟨rfl, hb1⟩)
  obtain ⟨c0, c1, c2, c3⟩ := HX.out _ hb1
  have HB1 := Lib.hid hb1
  have hbk1 : (ad.add (k * 4)).block < w1.heap.size := by have := hb1.size; omega
  clear hb1
  by_cases e1 : xa = hsh
  · have e1b : (xa == hsh) = true := by simpa using e1
    go_wp2_with (refine wpList_unguard rfl ?_)
    go_ret2
    rw [HE.out, if_pos (.inl e1)]
    exact ⟨none, 0, rfl, Nat.le_refl _, Nat.zero_le _, Owns.nil_ _ _ _ _, HB1.out⟩
  have e1b : (xa == hsh) = false := by simpa using e1
  by_cases e2 : xd = 1099511627776
  · have e2b : (xd == 1099511627776) = true := by simpa using e2
    go_wp2_with (refine wpList_unguard rfl ?_)
    go_ret2
    rw [HE.out, if_pos (.inr e2)]
    exact ⟨none, 0, rfl, Nat.le_refl _, Nat.zero_le _, Owns.nil_ _ _ _ _, HB1.out⟩
  have e2b : (xd == 1099511627776) = false := by simpa using e2
  by_cases e3 : 64 ≤ n
  · have e3i : (64 : Int) ≤ n := by omega
    go_wp2_with (refine wpList_unguard rfl ?_)
    go_ret2
    rw [HE.out, if_neg (by simp [e1, e2]), if_pos e3]
    exact ⟨none, 0, rfl, Nat.le_refl _, Nat.zero_le _, Owns.nil_ _ _ _ _, HB1.out⟩
  have e3i : (n : Int) < 64 := by omega
  go_upto_region 6 with (refine wpList_unguard rfl ?_)
  go_region
  all_goals have hgt : xa < hsh := by omega
  all_goals clear c0 c1 c2 c3
  · go_upto_region 10 with fail
    have i1 : (k : Int) ≤ (c : Int) := by omega
    have i2 : (k : Int) + 1 ≤ (n : Int) := by omega
    have i3 : (n : Int) ≤ (c : Int) := by omega
    have i8 : k ≤ c := by omega
    have hw1 : IntKind.i64.wrap ((k : Int) + 1) = ((k + 1 : Nat) : Int) := (IntWalk.i64_in _ (by omega)).trans (by omega)
    have j0 : (0 : Int) ≤ (k : Int) + 1 := by omega
    have j1 : k + 1 ≤ n := by omega
    have HC := Lib.hid (fun e1 e2 => split_concat ((w1.alloc (.cells #[.int .i64 xa, .int .i64 (hsh - 1), .int .i64 xc, .int .i64 (xd + 1)] 31)).alloc (.cells #[.int .i64 hsh, .int .i64 xb, .int .i64 xc, .int .i64 (xd + 1)] 31)) (w1.heap.size + 1 + 1) (by rw [alloc_size, alloc_size]) ad n c k l xa (hsh - 1) xc (xd + 1) hsh xb xc (xd + 1) e1 e2
      (((HR.out.below HB1.out).below (((Below.refl _ _).alloc (by exact HB1.out.size) _).alloc (by rw [alloc_size]; have := HB1.out.size; omega) _)).more (by rw [alloc_size, alloc_size]; have := HB1.out.size; omega)) HL.out hk hnc (by omega))
    have HBW : Hid (Below w.heap.size w ((w1.alloc (.cells #[.int .i64 xa, .int .i64 (hsh - 1), .int .i64 xc, .int .i64 (xd + 1)] 31)).alloc (.cells #[.int .i64 hsh, .int .i64 xb, .int .i64 xc, .int .i64 (xd + 1)] 31))) := Lib.hid ((HB1.out.alloc HB1.out.size _).alloc (by rw [alloc_size]; have := HB1.out.size; omega) _)
    go_region_law (go_simp; go_at_call 35; refine (HC.out _ _).mono ?_; rintro e w5 ⟨A5, c5, rfl, g1, g2, g3, g4, g5⟩)
    all_goals go_wp2
    all_goals (
      go_ret2
      rw [HE.out, if_neg (by simp [e1, e2]), if_neg e3]
      have hlen : (l.take k ++ splitR ⟨xa, xb, xc, xd⟩ hsh ++ l.drop (k + 1)).length = n + 1 := by
        have := HL.out
        simp only [splitR, List.length_append, List.length_take, List.length_drop, List.length_cons, List.length_nil]; omega
      refine ⟨A5, c5, ?_, by rw [hlen]; exact g1, g2, by rw [hlen]; exact g5.more HBW.out.size, HBW.out.trans (g4.mono HBW.out.size)⟩
      rw [hlen] <;> rfl)
  · go_upto_region 10 with fail
    have i1 : (k : Int) ≤ (c : Int) := by omega
    have i2 : (k : Int) + 1 ≤ (n : Int) := by omega
    have i3 : (n : Int) ≤ (c : Int) := by omega
    have i8 : k ≤ c := by omega
    have hw1 : IntKind.i64.wrap ((k : Int) + 1) = ((k + 1 : Nat) : Int) := (IntWalk.i64_in _ (by omega)).trans (by omega)
    have j0 : (0 : Int) ≤ (k : Int) + 1 := by omega
    have j1 : k + 1 ≤ n := by omega
    have HC := Lib.hid (fun e1 e2 => split_concat ((w1.alloc (.cells #[.int .i64 hsh, .int .i64 xb, .int .i64 xc, .int .i64 (xd + 1)] 31)).alloc (.cells #[.int .i64 xa, .int .i64 (hsh - 1), .int .i64 xc, .int .i64 (xd + 1)] 31)) (w1.heap.size + 1 + 1) (by rw [alloc_size, alloc_size]) ad n c k l xa (hsh - 1) xc (xd + 1) hsh xb xc (xd + 1) e1 e2
      (((HR.out.below HB1.out).below (((Below.refl _ _).alloc (by exact HB1.out.size) _).alloc (by rw [alloc_size]; have := HB1.out.size; omega) _)).more (by rw [alloc_size, alloc_size]; have := HB1.out.size; omega)) HL.out hk hnc (by omega))
    have HBW : Hid (Below w.heap.size w ((w1.alloc (.cells #[.int .i64 hsh, .int .i64 xb, .int .i64 xc, .int .i64 (xd + 1)] 31)).alloc (.cells #[.int .i64 xa, .int .i64 (hsh - 1), .int .i64 xc, .int .i64 (xd + 1)] 31))) := Lib.hid ((HB1.out.alloc HB1.out.size _).alloc (by rw [alloc_size]; have := HB1.out.size; omega) _)
    go_region_law (go_simp; go_at_call 35; refine (HC.out _ _).mono ?_; rintro e w5 ⟨A5, c5, rfl, g1, g2, g3, g4, g5⟩)
    all_goals go_wp2
    all_goals (
      go_ret2
      rw [HE.out, if_neg (by simp [e1, e2]), if_neg e3]
      have hlen : (l.take k ++ splitR ⟨xa, xb, xc, xd⟩ hsh ++ l.drop (k + 1)).length = n + 1 := by
        have := HL.out
        simp only [splitR, List.length_append, List.length_take, List.length_drop, List.length_cons, List.length_nil]; omega
      refine ⟨A5, c5, ?_, by rw [hlen]; exact g1, g2, by rw [hlen]; exact g5.more HBW.out.size, HBW.out.trans (g4.mono HBW.out.size)⟩
      rw [hlen] <;> rfl)
theorem split_any : Calls Try.prog 25 #[.slice A n c, .int .i64 hsh] w (RetRow w (splitL l hsh).1 (splitL l hsh).2) :=
  (split_own w A n c l hsh hr hw hl hnc hm hh0 hh1).mono fun _ _ h => h.row
end
end Go.Proofs.Ytbgnmkjjfaepiaa
