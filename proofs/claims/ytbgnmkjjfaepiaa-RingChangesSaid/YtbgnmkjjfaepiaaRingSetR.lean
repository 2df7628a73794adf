import Derived.Test.YtbgnmkjjfaepiaaRingPlain
import Derived.Test.YtbgnmkjjfaepiaaRingSplit
namespace Go.Proofs.Ytbgnmkjjfaepiaa
open Go.RowKit
set_option linter.unusedVariables false

def fits (r y : Rg) : Bool := decide (y.a = r.a) && decide (y.b = r.b)
def refM (r : Rg) (l : List Rg) : List Rg := l.map fun y => if fits r y then r else y
theorem refM_succ {r : Rg} {l : List Rg} {k : Nat} {y : Rg} (hk : l[k]? = some y) : refM r (l.take (k + 1)) = refM r (l.take k) ++ [if fits r y then r else y] := by
  rw [List.take_add_one, hk]; simp [refM]
theorem refM_length (r : Rg) (l : List Rg) : (refM r l).length = l.length := by simp [refM]
theorem any_succ {r : Rg} {l : List Rg} {k : Nat} {y : Rg} (hk : l[k]? = some y) : (l.take (k + 1)).any (fits r) = ((l.take k).any (fits r) || fits r y) := by
  rw [List.take_add_one, hk]; simp
theorem fits_iff {r y : Rg} : fits r y = true ↔ y.a = r.a ∧ y.b = r.b := by simp [fits]
/-- What the document's Set says is what ring.Set says. -/
theorem setL_ref {l : List Rg} {r : Rg} (hs : soundL l = true) :
    setL l r = if l.any (fits r) = false then ([], 4) else if soundL (refM r l) = false then ([], 1) else (refM r l, 0) := by
  obtain ⟨s1, s2⟩ := sound_parts hs
  by_cases hany : l.any (fits r) = true
  · obtain ⟨y, hy, hf⟩ := List.any_eq_true.1 hany
    obtain ⟨f1, f2⟩ := fits_iff.1 hf
    obtain ⟨k, hk, he⟩ := List.getElem_of_mem hy
    have hyk : l[k]? = some y := by rw [List.getElem?_eq_getElem hk, he]
    have hm : refM r l = l.set k r := by
      apply List.ext_getElem?
      intro j
      by_cases hj : j = k
      · subst hj
        rw [List.getElem?_set_self hk, refM, List.getElem?_map, hyk]
        simp [hf]
      · rw [List.getElem?_set_ne (by omega), refM, List.getElem?_map]
        cases hz : l[j]? with
        | none => rfl
        | some z =>
          simp only [Option.map_some]
          by_cases hzf : fits r z = true
          · exfalso
            obtain ⟨g1, g2⟩ := fits_iff.1 hzf
            have hzm := sg_mem s1 z (List.mem_of_getElem? hz)
            have e1 := sg_find s1 hz (h := z.a) (by omega) (by omega)
            have e2 := sg_find s1 hyk (h := z.a) (by omega) (by omega)
            rw [e1] at e2; injection e2; omega
          · simp [hzf]
    have e1 : ¬ (l.any (fits r) = false) := by rw [hany]; simp
    rw [setL_at hs hyk f1.symm f2.symm, if_neg e1, hm]
    by_cases ho : ownedL r = true
    · rw [if_pos ho, sound_set hs hyk f1.symm f2.symm ho]; simp
    · rw [if_neg ho]
      have : soundL (l.set k r) = false := by
        cases hq : soundL (l.set k r) with
        | false => rfl
        | true =>
          have := (sg_mem (sound_parts hq).1 r (List.mem_of_getElem? (i := k) (List.getElem?_set_self hk))).2.2.2.2
          exact absurd this ho
      rw [if_pos this]
  · have hany' : l.any (fits r) = false := by simpa using hany
    rw [if_pos hany']
    unfold setL
    rw [if_neg (by rw [hs]; simp)]
    cases hf : l.findIdx? (has r.a) with
    | none => rfl
    | some k =>
      obtain ⟨hkl, _, _⟩ := List.findIdx?_eq_some_iff_getElem.1 hf
      have hk : l[k]? = some l[k] := List.getElem?_eq_getElem hkl
      have hnf : fits r l[k] = false := by
        have := List.any_eq_false.1 hany' l[k] (List.getElem_mem hkl)
        simpa using this
      simp only [hk, Option.getD_some]
      rw [if_neg (fun h => by rw [fits_iff.2 h] at hnf; cases hnf)]

section
variable (w : World) (A : Option Addr) (n c : Nat) (l : List Rg) (r : Rg) (hr : Reads w w.heap.size 4 A n (rowCells l)) (hw : ∀ r ∈ l, r.wf) (hwr : r.wf) (hl : l.length = n) (hn : n ≤ maxLen) (hn80 : n ≤ 1000)
include hr hw hwr hl hn hn80

set_option maxRecDepth 100000 in
set_option maxHeartbeats 8000000 in
theorem setRing_any : Calls Try.prog 27 #[.slice A n c, r.val] w (RetRow w (setL l r).1 (setL l r).2) := by
  obtain ⟨q, HQ⟩ : ∃ q, Hid (soundL l = q) := ⟨_, Lib.hid rfl⟩
  have HS : Hid (∀ W, Below w.heap.size w W → Calls Try.prog 20 #[.slice A n c] W (RetB W q)) := Lib.hid fun W hb => by
    rw [← HQ.out]; exact soundRing_any W A n c l ((hr.below hb).more hb.size) hw hl hn
  have HWM : Hid (∀ y ∈ refM r l, y.wf) := Lib.hid fun y hy => by
    obtain ⟨z, hz, rfl⟩ := List.mem_map.1 hy
    split
    · exact hwr
    · exact hw z hz
  obtain ⟨q2, HQ2⟩ : ∃ q, Hid (soundL (refM r l) = q) := ⟨_, Lib.hid rfl⟩
  have HS2 : Hid (∀ W A' c', Reads W W.heap.size 4 A' n (rowCells (refM r l)) → Calls Try.prog 20 #[.slice A' n c'] W (RetB W q2)) := Lib.hid fun W A' c' h => by
    rw [← HQ2.out]; exact soundRing_any W A' n c' (refM r l) h HWM.out (by rw [refM_length]; exact hl) hn
  have HR := Lib.hid hr
  have HL := Lib.hid hl
  have hn' := hn
  unfold maxLen at hn'
  clear hr hw hwr hl
  obtain ⟨ra, rb, rc, rd⟩ := r
  unfold Rg.val
  simp only
  cases q
  · have HE : Hid (setL l ⟨ra, rb, rc, rd⟩ = ([], 1)) := Lib.hid (by unfold setL; rw [if_pos HQ.out])
    go_enter Try.func27, Try.ntmps27
    go_wp2_with (go_at_call 20; refine (HS.out _ ((Below.refl _ _).alloc (Nat.le_refl _) _)).mono ?_; rintro e w1 ⟨rfl, hb1⟩)
    go_ret2
    rw [HE.out]
    exact ⟨none, 0, rfl, Nat.le_refl _, Nat.zero_le _, Reads.none_, ((Below.refl _ _).alloc (Nat.le_refl _) _).trans (hb1.mono (by rw [alloc_size]; omega))⟩
  have HE := Lib.hid (setL_ref (r := ⟨ra, rb, rc, rd⟩) HQ.out)
  go_enter Try.func27, Try.ntmps27
  go_wp2_with (go_at_call 20; refine (HS.out _ ((Below.refl _ _).alloc (Nat.le_refl _) _)).mono ?_; rintro e w1 ⟨rfl, hb1⟩)
  have HB1 : Hid (Below w.heap.size w w1) := Lib.hid (((Below.refl _ _).alloc (Nat.le_refl _) _).trans (hb1.mono (by rw [alloc_size]; omega)))
  have HX : Hid (w1.rangeAt w.heap.size 0 (Rg.cells ⟨ra, rb, rc, rd⟩) ∧ w.heap.size < w1.heap.size) := Lib.hid ⟨range_below_at (range_new w (Rg.cells ⟨ra, rb, rc, rd⟩) _) hb1 (by rw [alloc_size]; omega), by have := hb1.size; rw [alloc_size] at this; omega⟩
  clear hb1
  go_loopw [6, 7, 8] (fun v mt i wr => ∃ (k : Nat), k ≤ n ∧ i = .int .i64 k ∧ mt = .bool ((l.take k).any (fits ⟨ra, rb, rc, rd⟩)) ∧ Hid (Owns wr w1.heap.size 31 4 v k (rowCells (refM ⟨ra, rb, rc, rd⟩ (l.take k)))) ∧ Hid (Below w1.heap.size w1 wr)) (fun _ _ i _ => n - (intOf i).toNat)
  case atStart => exact ⟨0, Nat.zero_le _, rfl, rfl, Lib.hid (Owns.nil_ _ _ _ _), Lib.hid (Below.refl _ _)⟩
  case round =>
    obtain ⟨k, hk, rfl, rfl, HO, HB⟩ := hrel
    by_cases hlt : k < n
    · refine code_hide (fun Q0 HQ0 => ?_)
      obtain ⟨y, hyk⟩ : ∃ y, l[k]? = some y := ⟨_, List.getElem?_eq_getElem (by have := HL.out; omega)⟩
      have HSU := Lib.hid (refM_succ (r := ⟨ra, rb, rc, rd⟩) hyk)
      have HAU := Lib.hid (any_succ (r := ⟨ra, rb, rc, rd⟩) hyk)
      obtain ⟨ad, rfl, hab, hya⟩ := (HR.out.below (HB1.out.trans (HB.out.mono HB1.out.size))).range hyk hlt
      have R6 : Hid (wr.rangeAt w.heap.size 0 (Rg.cells ⟨ra, rb, rc, rd⟩)) := Lib.hid (range_below_at HX.out.1 HB.out HX.out.2)
      obtain ⟨ya, yb, yc, yd⟩ := y
      have HA := Lib.hid hya
      have c0 := hya 0 (.int .i64 ya) rfl
      have c1 := hya 1 (.int .i64 yb) rfl
      rw [add_of_add, Nat.add_zero] at c0
      rw [add1 _ 1 (by omega)] at c1
      have q0 : wr.cell? ⟨w.heap.size, 0, none⟩ = some (.int .i64 ra) := R6.out 0 _ rfl
      have q1 : wr.cell? ⟨w.heap.size, 1, none⟩ = some (.int .i64 rb) := R6.out 1 _ rfl
      clear hya hyk
      generalize hmt : (l.take k).any (fits ⟨ra, rb, rc, rd⟩) = mt at *
      have HMT : Hid ((l.take k).any (fits ⟨ra, rb, rc, rd⟩) = mt) := Lib.hid hmt
      clear hmt
      by_cases h1 : ya = ra
      · by_cases h2 : yb = rb
        · have HFT : Hid (fits ⟨ra, rb, rc, rd⟩ ⟨ya, yb, yc, yd⟩ = true) := Lib.hid (by simp [fits, h1, h2])
          have b1 : (ya == ra) = true := by simpa using h1
          have b2 : (yb == rb) = true := by simpa using h2
          clear h1 h2
          go_upto_region 8 with fail
          go_quiet (fail)
          have HO' : Hid (Owns (wr.drewN nq) w1.heap.size 31 4 _ k (rowCells (refM ⟨ra, rb, rc, rd⟩ (l.take k)))) := HO
          have HBn : Hid (Below w1.heap.size w1 (wr.drewN nq)) := Lib.hid (below_drewN' HB.out nq)
          have HA' : Hid (∀ j v, (Rg.cells ⟨ya, yb, yc, yd⟩)[j]? = some v → (wr.drewN nq).cell? ((ad.add (k * 4)).add j) = some v) := HA
          have R6' : Hid ((wr.drewN nq).rangeAt w.heap.size 0 (Rg.cells ⟨ra, rb, rc, rd⟩)) := R6
          clear HO HB HA R6 c0 c1 q0 q1
          generalize wr.drewN nq = w3 at *
          go_wp2_with (first
            | (refine wpList_load_mid rfl 31 _ rfl w.heap.size 0 rfl [Value.int .i64 ra, .int .i64 rb, .int .i64 rc, .int .i64 rd] _ R6'.out Try.underlying31 rfl (by kernel_rfl) ?_)
            | (at_builtin; refine app_ranges _ rfl (.tmp 36) (.tmp 38) rfl w1.heap.size _ k _ rfl (HO'.out.alloc _) _ _ 1 _ (rowCells [⟨ra, rb, rc, rd⟩]) rfl (reads_newRs w3 [⟨ra, rb, rc, rd⟩] _) (rowCells_one _) (by omega) (le_alloc HBn.out.size) ?_; intro v2 w4 ho2 hb2 hr2))
          refine hide_out HQ0 ?_
          go_step
          go_roundw
          case rel =>
            refine ⟨k + 1, by omega, by go_num, ?_, Lib.hid ?_, Lib.hid ((HBn.out.alloc HBn.out.size _).trans hb2)⟩
            · first | (rw [HAU.out, HFT.out, HMT.out]; simp) | (rw [HAU.out, HFT.out]; simp)
            · rw [HSU.out, HFT.out, rowCells_append]; exact ho2
          case measure => simp [intOf]; omega
        · have HFT : Hid (fits ⟨ra, rb, rc, rd⟩ ⟨ya, yb, yc, yd⟩ = false) := Lib.hid (by simp [fits, h2])
          have b1 : (ya == ra) = true := by simpa using h1
          have b2 : (yb == rb) = false := by simpa using h2
          clear h1 h2
          go_upto_region 8 with fail
          go_quiet (fail)
          have HO' : Hid (Owns (wr.drewN nq) w1.heap.size 31 4 _ k (rowCells (refM ⟨ra, rb, rc, rd⟩ (l.take k)))) := HO
          have HBn : Hid (Below w1.heap.size w1 (wr.drewN nq)) := Lib.hid (below_drewN' HB.out nq)
          have HA' : Hid (∀ j v, (Rg.cells ⟨ya, yb, yc, yd⟩)[j]? = some v → (wr.drewN nq).cell? ((ad.add (k * 4)).add j) = some v) := HA
          have R6' : Hid ((wr.drewN nq).rangeAt w.heap.size 0 (Rg.cells ⟨ra, rb, rc, rd⟩)) := R6
          clear HO HB HA R6 c0 c1 q0 q1
          generalize wr.drewN nq = w3 at *
          go_wp2_with (first
            | (refine wpList_load_at rfl 31 _ rfl _ rfl [Value.int .i64 ya, .int .i64 yb, .int .i64 yc, .int .i64 yd] _ HA'.out Try.underlying31 rfl (by kernel_rfl) ?_)
            | (at_builtin; refine app_ranges _ rfl (.tmp 40) (.tmp 45) rfl w1.heap.size _ k _ rfl (HO'.out.alloc _) _ _ 1 _ (rowCells [⟨ya, yb, yc, yd⟩]) rfl (reads_newRs w3 [⟨ya, yb, yc, yd⟩] _) (rowCells_one _) (by omega) (le_alloc HBn.out.size) ?_; intro v2 w4 ho2 hb2 hr2))
          refine hide_out HQ0 ?_
          go_step
          go_roundw
          case rel =>
            refine ⟨k + 1, by omega, by go_num, ?_, Lib.hid ?_, Lib.hid ((HBn.out.alloc HBn.out.size _).trans hb2)⟩
            · first | (rw [HAU.out, HFT.out, HMT.out]; simp) | (rw [HAU.out, HFT.out]; simp)
            · rw [HSU.out, HFT.out, rowCells_append]; exact ho2
          case measure => simp [intOf]; omega
      · have HFT : Hid (fits ⟨ra, rb, rc, rd⟩ ⟨ya, yb, yc, yd⟩ = false) := Lib.hid (by simp [fits, h1])
        have b1 : (ya == ra) = false := by simpa using h1
        clear h1
        go_upto_region 8 with fail
        go_quiet (fail)
        have HO' : Hid (Owns (wr.drewN nq) w1.heap.size 31 4 _ k (rowCells (refM ⟨ra, rb, rc, rd⟩ (l.take k)))) := HO
        have HBn : Hid (Below w1.heap.size w1 (wr.drewN nq)) := Lib.hid (below_drewN' HB.out nq)
        have HA' : Hid (∀ j v, (Rg.cells ⟨ya, yb, yc, yd⟩)[j]? = some v → (wr.drewN nq).cell? ((ad.add (k * 4)).add j) = some v) := HA
        have R6' : Hid ((wr.drewN nq).rangeAt w.heap.size 0 (Rg.cells ⟨ra, rb, rc, rd⟩)) := R6
        clear HO HB HA R6 c0 c1 q0 q1
        generalize wr.drewN nq = w3 at *
        go_wp2_with (first
          | (refine wpList_load_at rfl 31 _ rfl _ rfl [Value.int .i64 ya, .int .i64 yb, .int .i64 yc, .int .i64 yd] _ HA'.out Try.underlying31 rfl (by kernel_rfl) ?_)
          | (at_builtin; refine app_ranges _ rfl (.tmp 40) (.tmp 45) rfl w1.heap.size _ k _ rfl (HO'.out.alloc _) _ _ 1 _ (rowCells [⟨ya, yb, yc, yd⟩]) rfl (reads_newRs w3 [⟨ya, yb, yc, yd⟩] _) (rowCells_one _) (by omega) (le_alloc HBn.out.size) ?_; intro v2 w4 ho2 hb2 hr2))
        refine hide_out HQ0 ?_
        go_step
        go_roundw
        case rel =>
          refine ⟨k + 1, by omega, by go_num, ?_, Lib.hid ?_, Lib.hid ((HBn.out.alloc HBn.out.size _).trans hb2)⟩
          · first | (rw [HAU.out, HFT.out, HMT.out]; simp) | (rw [HAU.out, HFT.out]; simp)
          · rw [HSU.out, HFT.out, rowCells_append]; exact ho2
        case measure => simp [intOf]; omega
    · obtain rfl : n = k := by omega
      have ho := HO.out
      rw [List.take_of_length_le (by have := HL.out; omega)] at ho
      rw [List.take_of_length_le (by have := HL.out; omega)]
      obtain ⟨A2, c2, hv2, hc2, hm2, hrd⟩ := ho.form
      subst hv2
      have HRD := Lib.hid hrd
      have HMM := Lib.hid hm2
      clear hrd ho HO hm2
      generalize hany : l.any (fits ⟨ra, rb, rc, rd⟩) = an at *
      have HAN := Lib.hid hany
      clear hany
      cases an
      · go_wp2
        go_ret2
        rw [HE.out]
        simp only [if_true]
        exact ⟨none, 0, rfl, Nat.le_refl _, Nat.zero_le _, Reads.none_, HB1.out.trans (HB.out.mono HB1.out.size)⟩
      · cases q2
        · go_wp2_with (go_at_call 20; refine (HS2.out _ _ _ HRD.out).mono ?_; rintro e w5 ⟨rfl, hb5⟩)
          go_ret2
          rw [HE.out, if_neg (by simp), if_pos HQ2.out]
          exact ⟨none, 0, rfl, Nat.le_refl _, Nat.zero_le _, Reads.none_, (HB1.out.trans (HB.out.mono HB1.out.size)).trans (hb5.mono (HB1.out.trans (HB.out.mono HB1.out.size)).size)⟩
        · go_wp2_with (go_at_call 20; refine (HS2.out _ _ _ HRD.out).mono ?_; rintro e w5 ⟨rfl, hb5⟩)
          go_ret2
          rw [HE.out, if_neg (by simp), if_neg (by rw [HQ2.out]; simp)]
          have hlen : (refM ⟨ra, rb, rc, rd⟩ l).length = n := by rw [refM_length]; exact HL.out
          refine ⟨A2, c2, ?_, by rw [hlen]; exact hc2, HMM.out, by rw [hlen]; exact (HRD.out.below hb5).more hb5.size, (HB1.out.trans (HB.out.mono HB1.out.size)).trans (hb5.mono (HB1.out.trans (HB.out.mono HB1.out.size)).size)⟩
          rw [hlen] <;> rfl
end
end Go.Proofs.Ytbgnmkjjfaepiaa
