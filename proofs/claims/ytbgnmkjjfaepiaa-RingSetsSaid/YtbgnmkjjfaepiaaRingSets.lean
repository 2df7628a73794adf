import Derived.Test.YtbgnmkjjfaepiaaRingPlain
import Derived.Test.YtbgnmkjjfaepiaaRingAwake
namespace Go.Proofs.Ytbgnmkjjfaepiaa
open Go.RowKit
set_option linter.unusedVariables false

theorem mem_set_wf {l : List Rg} {k : Nat} {r : Rg} (hw : ∀ r ∈ l, r.wf) (hr : r.wf) : ∀ x ∈ l.set k r, x.wf := fun x hx => by
  rcases List.mem_or_eq_of_mem_set hx with h | rfl
  · exact hw x h
  · exact hr

set_option maxRecDepth 100000 in
set_option maxHeartbeats 4000000 in
theorem ringSets_walk (w : World) (A : Option Addr) (n c : Nat) (l : List Rg) (hr : Reads w w.heap.size 4 A n (rowCells l)) (hw : ∀ r ∈ l, r.wf) (hl : l.length = n) (hnc : n ≤ c) (hm : c ≤ maxLen)
    (k0 : Int) (w1 : (Lit.int .i64 k0).wf = true) (ow : Int) (w2 : (Lit.int .i64 ow).wf = true) (ep : Int) (w3 : (Lit.int .i64 ep).wf = true) :
    Calls Try.prog 4 #[.slice A n c, .int .i64 k0, .int .i64 ow, .int .i64 ep] w (RetTrue w) := by
  have hn : n ≤ maxLen := Nat.le_trans hnc hm
  have HSM : Hid (∀ W, Calls Try.prog 10 #[.slice A n c] W fun e w' => e = .returned (.bool (decide (n ≤ 80))) ∧ W = w') := Lib.hid fun W => small_any W A n c hn
  by_cases h1 : n ≤ 80
  · have h1d : decide (n ≤ 80) = true := by simpa using h1
    obtain ⟨q, HQ⟩ : ∃ q, Hid (soundL l = q) := ⟨_, Lib.hid rfl⟩
    have HS : Hid (∀ W, Below w.heap.size w W → Calls Try.prog 19 #[.slice A n c] W (RetB W q)) := Lib.hid fun W hb => by
      rw [← HQ.out]; exact sound_any W A n c l ((hr.below hb).more hb.size) hw hl hn
    cases q
    · clear hr hw hl
      go_enter Try.func4, Try.ntmps4
      go_wp2_with (first
        | (refine wpList_unguard rfl ?_)
        | (go_at_call 10; refine (HSM.out _).mono ?_; rintro e w' ⟨rfl, rfl⟩)
        | (go_at_call 19; refine (HS.out _ (Below.refl _ _)).mono ?_; rintro e w4 ⟨rfl, hb4⟩)
        | (go_at_call 11; refine (awake_any _).mono ?_; rintro e w' ⟨rfl, hb⟩))
      go_ret
      exact RetTrue.from hb4 ⟨rfl, hb⟩
    have hsound := HQ.out
    have hpos : 0 < n := by rw [← hl]; exact sound_pos hsound
    obtain ⟨k, HK, hkn⟩ : ∃ k : Nat, Hid (roundZ k0 (n : Int) = (k : Int)) ∧ k < n := by
      have := roundZ_bd k0 (n : Int) (by omega)
      exact ⟨(roundZ k0 (n : Int)).toNat, Lib.hid (by omega), by omega⟩
    obtain ⟨x, hxk⟩ : ∃ x, l[k]? = some x := ⟨_, List.getElem?_eq_getElem (by omega)⟩
    obtain ⟨xa, xb, xc, xd⟩ := x
    have hxw := hw _ (List.mem_of_getElem? hxk)
    have hrw : (Rg.mk xa xb ow ep).wf := by
      have a1 := wf_int w2; have a2 := wf_int w3
      unfold Rg.wf at hxw ⊢
      simp only at hxw ⊢
      omega
    have hmw := mem_set_wf (k := k) hw hrw
    have hset : setL l ⟨xa, xb, ow, ep⟩ = if ownedL ⟨xa, xb, ow, ep⟩ then (l.set k ⟨xa, xb, ow, ep⟩, 0) else ([], 1) := setL_at hsound hxk rfl rfl
    obtain ⟨ad, rfl, hab, hxa⟩ := hr.range hxk hkn
    have HRA : Hid (∀ W, Below w.heap.size w W → ∀ j v, [Value.int .i64 xa, .int .i64 xb, .int .i64 xc, .int .i64 xd][j]? = some v → W.cell? ((ad.add (k * 4)).add j) = some v) :=
      Lib.hid fun W hb => range_below hxa hb (by rw [block_of_add]; exact hab)
    have HSET : Hid (∀ W, Below w.heap.size w W → Calls Try.prog 22 #[.slice (some ad) n c, .agg #[.int .i64 xa, .int .i64 xb, .int .i64 ow, .int .i64 ep]] W (RetRow W (setL l ⟨xa, xb, ow, ep⟩).1 (setL l ⟨xa, xb, ow, ep⟩).2)) :=
      Lib.hid fun W hb => set_any W (some ad) n c l ⟨xa, xb, ow, ep⟩ ((hr.below hb).more hb.size) hw hl hn (by omega)
    have HR := Lib.hid hr
    have HL := Lib.hid hl
    have HX := Lib.hid hxk
    have HSO := Lib.hid hsound
    have HMW := Lib.hid hmw
    have HRND : Hid (∀ W, Calls Try.prog 21 #[.int .i64 k0, .int .i64 (n : Int)] W fun e w' => e = .returned (.int .i64 (k : Int)) ∧ W = w') := Lib.hid fun W => by
      have := round_any k0 (n : Int) W (by omega) (by omega)
      rw [HK.out] at this
      exact this
    have HWL := Lib.hid hw
    clear hr hw hl hxk hsound hmw hxa hrw hxw w1
    by_cases howned : ownedL ⟨xa, xb, ow, ep⟩ = true
    · rw [if_pos howned] at hset
      rw [hset] at HSET
      have HOW := Lib.hid howned
      have hb1 : 1 ≤ ow ∧ ow ≤ 5 ∧ 1 ≤ ep ∧ ep ≤ 1099511627776 := by simp [ownedL] at howned; omega
      have d1 : decide (ow < 1) = false := by simp; omega
      have d2 : decide (5 < ow) = false := by simp; omega
      have d3 : decide (ep < 1) = false := by simp; omega
      have d4 : decide (1099511627776 < ep) = false := by simp; omega
      clear hset howned
      go_enter Try.func4, Try.ntmps4
      go_upto_region 8 with (first
        | (refine wpList_unguard rfl ?_)
        | (go_at_call 10; refine (HSM.out _).mono ?_; rintro e w' ⟨rfl, rfl⟩)
        | (go_at_call 19; refine (HS.out _ (Below.refl _ _)).mono ?_; rintro e w4 ⟨rfl, hb4⟩)
        | (go_at_call 21; refine (HRND.out _).mono ?_; rintro e w' ⟨rfl, rfl⟩)
        | (refine wpList_load_at rfl 31 _ rfl _ rfl [Value.int .i64 xa, .int .i64 xb, .int .i64 xc, .int .i64 xd] _ (HRA.out _ hb4) Try.underlying31 rfl (by kernel_rfl) ?_)
        | (go_at_call 22; refine (HSET.out _ (hb4.alloc hb4.size _)).mono ?_; rintro e w5 ⟨A5, c5, rfl, hc5, hcm5, hr5, hb5⟩))
      have e5 : (l.set k ⟨xa, xb, ow, ep⟩).length = n := by rw [List.length_set]; exact HL.out
      have hr5' : Reads w5 w5.heap.size 4 A5 n (rowCells (l.set k ⟨xa, xb, ow, ep⟩)) := by rw [← e5]; exact hr5
      have K5 : Hid (Below w.heap.size w w5) := Lib.hid ((hb4.alloc hb4.size _).trans (hb5.mono (hb4.alloc hb4.size _).size))
      have H9 : Hid (w5.rangeAt w4.heap.size 0 (Rg.cells ⟨xa, xb, ow, ep⟩) ∧ w4.heap.size < w5.heap.size) := Lib.hid
        ⟨range_below_at (range_new w4 (Rg.cells ⟨xa, xb, ow, ep⟩) 31) hb5 (by rw [alloc_size]; omega), by have := hb5.size; rw [alloc_size] at this; omega⟩
      have hcn5 : n ≤ c5 := by rw [← e5]; exact hc5
      rw [HL.out]
      have HS2 : Hid (∀ W, Below w5.heap.size w5 W → Calls Try.prog 19 #[.slice A5 n c5] W (RetB W true)) := Lib.hid fun W hb => by
        have := sound_any W A5 n c5 (l.set k ⟨xa, xb, ow, ep⟩) ((hr5'.below hb).more hb.size) HMW.out e5 (by omega)
        rwa [sound_set (r := ⟨xa, xb, ow, ep⟩) HSO.out HX.out rfl rfl HOW.out] at this
      have HR5 := Lib.hid hr5'
      clear hr5 hr5' hb5 hb4 hc5 e5
      generalize w4.heap.size = b9 at *
      go_wp2_with (first
        | (refine wpList_unguard rfl ?_)
        | (go_at_call 19; refine (HS2.out _ (Below.refl _ _)).mono ?_; rintro e w6 ⟨rfl, hb6⟩))
      have HR6 : Hid (Reads w6 w5.heap.size 4 A5 n (rowCells (l.set k ⟨xa, xb, ow, ep⟩))) := Lib.hid (HR5.out.below hb6)
      have HL6 : Hid (Reads w6 w.heap.size 4 (some ad) n (rowCells l)) := Lib.hid (HR.out.below (K5.out.trans (hb6.mono K5.out.size)))
      have K6 : Hid (Below w.heap.size w w6) := Lib.hid (K5.out.trans (hb6.mono K5.out.size))
      have Z6 : Hid (w5.heap.size ≤ w6.heap.size) := Lib.hid hb6.size
      have H96 : Hid (w6.rangeAt b9 0 (Rg.cells ⟨xa, xb, ow, ep⟩)) := Lib.hid (range_below_at H9.out.1 hb6 H9.out.2)
      have HX2 : Hid (setL (l.set k ⟨xa, xb, ow, ep⟩) ⟨xa, xb, xc, xd⟩ = (l, 0)) := Lib.hid (by
        have hs2 := sound_set HSO.out HX.out (r := ⟨xa, xb, ow, ep⟩) rfl rfl HOW.out
        have hk2 : (l.set k ⟨xa, xb, ow, ep⟩)[k]? = some ⟨xa, xb, ow, ep⟩ := List.getElem?_set_self (List.getElem?_eq_some_iff.1 HX.out).1
        have hox := (sg_mem (sound_parts HSO.out).1 _ (List.mem_of_getElem? HX.out)).2.2.2.2
        rw [setL_at (r := ⟨xa, xb, xc, xd⟩) hs2 hk2 rfl rfl, if_pos hox, set_back HX.out])
      have HSET2 : Hid (∀ W, Below w6.heap.size w6 W → Calls Try.prog 22 #[.slice A5 n c5, .agg #[.int .i64 xa, .int .i64 xb, .int .i64 xc, .int .i64 xd]] W (RetRow W l 0)) :=
        Lib.hid fun W hb => by
          have := set_any W A5 n c5 (l.set k ⟨xa, xb, ow, ep⟩) ⟨xa, xb, xc, xd⟩ (((HR6.out.more Z6.out).below hb).more hb.size) HMW.out (by rw [List.length_set]; exact HL.out) (by omega) (by omega)
          rwa [HX2.out] at this
      clear hb6
      go_loopw [12] (fun i wr => ∃ (j m : Nat), j ≤ n ∧ i = .int .i64 j ∧ wr = w6.drewN m) (fun i _ => n - (intOf i).toNat)
      case atStart => exact ⟨0, 0, Nat.zero_le _, rfl, rfl⟩
      case round =>
        obtain ⟨j, m, hj, rfl, rfl⟩ := hrel
        refine code_hide (fun Q0 HQ0 => ?_)
        by_cases hlt : j < n
        · by_cases hjk : j = k
          · subst hjk
            obtain ⟨ad5, rfl, _, hq5⟩ := HR6.out.range (k := j) (r := ⟨xa, xb, ow, ep⟩) (List.getElem?_set_self (by have := HL.out; omega)) hlt
            have HA := Lib.hid hq5
            have HB : Hid (∀ j' v, (Rg.cells ⟨xa, xb, ow, ep⟩)[j']? = some v → w6.cell? ((⟨b9, 0, none⟩ : Addr).add j') = some v) := Lib.hid fun j' v hv => by rw [Addr.add_mid]; exact H96.out j' v hv
            clear hq5
            go_upto_region 15 with fail
            refine wp_region_quiet_lit (by kernel_rfl) (by kernel_rfl) ?_
            repeat (first
              | (go_big_quiet_want; refine quiet_load_at 31 _ rfl _ rfl [Value.int .i64 xa, .int .i64 xb, .int .i64 ow, .int .i64 ep] _ (by rintro W ⟨q, rfl⟩; first | exact HA.out | exact HB.out) Try.underlying31 rfl (by kernel_rfl) ?_; go_simp; go_big_quiet_on)
              | (go_big_quiet_want; refine quiet_ne_rg _ _ rfl ⟨xa, xb, ow, ep⟩ ⟨xa, xb, ow, ep⟩ rfl rfl ?_; simp only [decide_true, Bool.not_true]; go_simp; go_big_quiet_on)
              | (go_big_quiet_step (fail)))
            refine wpQuiet_nil ?_
            rintro _ ⟨nq, rfl⟩
            go_wp2
            refine hide_out HQ0 ?_
            go_step
            go_roundw
            case rel => exact ⟨j + 1, _, by omega, by go_num, rfl⟩
            case measure => simp [intOf]; omega
          · obtain ⟨y, hy⟩ : ∃ y, l[j]? = some y := ⟨_, List.getElem?_eq_getElem (by have := HL.out; omega)⟩
            obtain ⟨ya, yb, yc, yd⟩ := y
            obtain ⟨ad5, rfl, _, hq5⟩ := HR6.out.range (k := j) (r := ⟨ya, yb, yc, yd⟩) (by rw [List.getElem?_set_ne (by omega)]; exact hy) hlt
            obtain ⟨ad', ea, _, hq6⟩ := HL6.out.range hy hlt
            injection ea with ea
            subst ea
            have HA := Lib.hid hq5
            have HB := Lib.hid hq6
            clear hq5 hq6 hy
            have b1 : ((j : Int) == (k : Int)) = false := by simp; omega
            have b2 : ((j : Int) != (k : Int)) = true := by simp [bne]; omega
            go_upto_region 15 with fail
            refine wp_region_quiet_lit (by kernel_rfl) (by kernel_rfl) ?_
            repeat (first
              | (go_big_quiet_want; refine quiet_load_at 31 _ rfl _ rfl [Value.int .i64 ya, .int .i64 yb, .int .i64 yc, .int .i64 yd] _ (by rintro W ⟨q, rfl⟩; first | exact HA.out | exact HB.out) Try.underlying31 rfl (by kernel_rfl) ?_; go_simp; go_big_quiet_on)
              | (go_big_quiet_want; refine quiet_ne_rg _ _ rfl ⟨ya, yb, yc, yd⟩ ⟨ya, yb, yc, yd⟩ rfl rfl ?_; simp only [decide_true, Bool.not_true]; go_simp; go_big_quiet_on)
              | (go_big_quiet_step (fail)))
            refine wpQuiet_nil ?_
            rintro _ ⟨nq, rfl⟩
            go_wp2
            refine hide_out HQ0 ?_
            go_step
            go_roundw
            case rel => exact ⟨j + 1, _, by omega, by go_num, rfl⟩
            case measure => simp [intOf]; omega
        · go_wp2
          refine hide_out HQ0 ?_
          have HK6 : Hid (Below w6.heap.size w6 (w6.drewN m)) := Lib.hid (below_drewN (Below.refl _ _) _)
          go_upto_region 18 with (first
            | (refine wpList_load_at rfl 31 _ rfl _ rfl [Value.int .i64 xa, .int .i64 xb, .int .i64 xc, .int .i64 xd] _ (HRA.out _ (below_drewN K6.out _)) Try.underlying31 rfl (by kernel_rfl) ?_)
            | (go_at_call 22; refine (HSET2.out _ HK6.out).mono ?_; rintro e w7 ⟨A7, c7, rfl, hc7, hcm7, hr7, hb7⟩))
          have K7 : Hid (Below w.heap.size w w7) := Lib.hid ((below_drewN K6.out m).trans (hb7.mono K6.out.size))
          have HR7 := Lib.hid hr7
          have HL7 : Hid (Reads w7 w.heap.size 4 (some ad) l.length (rowCells l)) := Lib.hid (by rw [HL.out]; exact HR.out.below K7.out)
          have HLm : Hid (l.length ≤ maxLen) := Lib.hid (by rw [HL.out]; exact hn)
          clear hr7 hb7
          rw [← HL.out]
          go_wp2_with (first
            | (refine wpList_unguard rfl ?_)
            | (go_at_call 18; refine (same_any _ _ _ _ _ _ _ _ l HR7.out HL7.out rfl HLm.out).mono ?_; rintro e w' ⟨rfl, m1, rfl⟩)
            | (go_at_call 11; refine (awake_any _).mono ?_; rintro e w' ⟨rfl, hb⟩))
          go_ret
          exact RetTrue.from (below_drewN K7.out _) ⟨rfl, hb⟩
    · rw [if_neg howned] at hset
      rw [hset] at HSET
      have hbad : ow < 1 ∨ (¬ ow < 1 ∧ 5 < ow) ∨ (¬ ow < 1 ∧ ¬ 5 < ow ∧ ep < 1) ∨ (¬ ow < 1 ∧ ¬ 5 < ow ∧ ¬ ep < 1 ∧ 1099511627776 < ep) := by simp [ownedL] at howned; omega
      clear hset howned
      go_enter Try.func4, Try.ntmps4
      go_upto_region 8 with (first
        | (refine wpList_unguard rfl ?_)
        | (go_at_call 10; refine (HSM.out _).mono ?_; rintro e w' ⟨rfl, rfl⟩)
        | (go_at_call 19; refine (HS.out _ (Below.refl _ _)).mono ?_; rintro e w4 ⟨rfl, hb4⟩)
        | (go_at_call 21; refine (HRND.out _).mono ?_; rintro e w' ⟨rfl, rfl⟩)
        | (refine wpList_load_at rfl 31 _ rfl _ rfl [Value.int .i64 xa, .int .i64 xb, .int .i64 xc, .int .i64 xd] _ (HRA.out _ hb4) Try.underlying31 rfl (by kernel_rfl) ?_)
        | (go_at_call 22; refine (HSET.out _ (hb4.alloc hb4.size _)).mono ?_; rintro e w5 ⟨A5, c5, rfl, hc5, hcm5, hr5, hb5⟩))
      have K5 : Hid (Below w.heap.size w w5) := Lib.hid ((hb4.alloc hb4.size _).trans (hb5.mono (hb4.alloc hb4.size _).size))
      clear hr5 hb5
      simp only [List.length_nil] at *
      rcases hbad with h | ⟨g1, h⟩ | ⟨g1, g2, h⟩ | ⟨g1, g2, g3, h⟩
      · skip
        go_wp2_with (first
          | (refine wpList_unguard rfl ?_)
          | (go_at_call 11; refine (awake_any _).mono ?_; rintro e w' ⟨rfl, hb⟩))
        go_ret
        exact RetTrue.from K5.out ⟨rfl, hb⟩
      · have d1 : decide (ow < 1) = false := by simp; omega
        go_wp2_with (first
          | (refine wpList_unguard rfl ?_)
          | (go_at_call 11; refine (awake_any _).mono ?_; rintro e w' ⟨rfl, hb⟩))
        go_ret
        exact RetTrue.from K5.out ⟨rfl, hb⟩
      · have d1 : decide (ow < 1) = false := by simp; omega
        have d2 : decide (5 < ow) = false := by simp; omega
        go_wp2_with (first
          | (refine wpList_unguard rfl ?_)
          | (go_at_call 11; refine (awake_any _).mono ?_; rintro e w' ⟨rfl, hb⟩))
        go_ret
        exact RetTrue.from K5.out ⟨rfl, hb⟩
      · have d1 : decide (ow < 1) = false := by simp; omega
        have d2 : decide (5 < ow) = false := by simp; omega
        have d3 : decide (ep < 1) = false := by simp; omega
        go_wp2_with (first
          | (refine wpList_unguard rfl ?_)
          | (go_at_call 11; refine (awake_any _).mono ?_; rintro e w' ⟨rfl, hb⟩))
        go_ret
        exact RetTrue.from K5.out ⟨rfl, hb⟩
  · have h1d : decide (n ≤ 80) = false := by simpa using h1
    clear hr hw hl
    go_enter Try.func4, Try.ntmps4
    go_wp2_with (first
      | (refine wpList_unguard rfl ?_)
      | (go_at_call 10; refine (HSM.out _).mono ?_; rintro e w' ⟨rfl, rfl⟩)
      | (go_at_call 11; refine (awake_any _).mono ?_; rintro e w' ⟨rfl, hb⟩))
    go_ret
    exact ⟨rfl, hb⟩
end Go.Proofs.Ytbgnmkjjfaepiaa
