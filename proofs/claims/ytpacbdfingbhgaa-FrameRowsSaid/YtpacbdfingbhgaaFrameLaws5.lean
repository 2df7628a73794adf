/- The walk of the law FrameTorn. No condition. -/
import Derived.Test.YtpacbdfingbhgaaFrameLaws2
import Derived.Test.YtpacbdfingbhgaaFrameLaws4
import Derived.Test.YtpacbdfingbhgaaTornPlain
import Derived.Test.YtpacbdfingbhgaaOwnApp
namespace Go.Proofs.Ytpacbdfingbhgaa
open Go.RowKit
set_option linter.unusedVariables false

theorem nums_snoc (xs : List Nat) (x : Nat) : nums (xs ++ [x]) = nums xs ++ [.int .i64 (x : Int)] := by simp [nums]
theorem int_one {n : Int} : ∀ u ∈ [Value.int .i64 n], u.oneCell' = true := one1

theorem RetScan.eq {B : Nat} {w w' : World} {l : List UInt8} {ls : List (List UInt8)} {m k : Nat} {e : Ending} (h : RetScan B w l e w') (hN : scanL l = (ls, m, k)) :
    ∃ A c vs, e = .returned (.tuple #[.slice A ls.length c, .int .i64 m, .int .i64 k]) ∧ w'.ownsRow B 22 1 (.slice A ls.length c) ls.length vs ∧ OwnAll w' B vs ls ∧ Below B w w' := by
  unfold RetScan at h
  rw [hN] at h
  exact h
theorem bc_take (l : List UInt8) (k : Nat) : (bc l).take k = bc (l.take k) := by simp [Lib.byteCells, List.map_take]

set_option maxRecDepth 100000 in
set_option maxHeartbeats 4000000 in
theorem frameTorn_walk (w : World) (A : Option Addr) (n c : Nat) (vs : List Value) (ls : List (List UInt8)) (ha : Reads w w.heap.size 1 A n vs) (hv : AreBytes w w.heap.size vs ls) (hnc : n ≤ c) (hc : c ≤ maxLen) (cut : Int) (hcut : (Lit.int .i64 cut).wf = true) :
    Calls Try.prog 7 #[.slice A n c, .int .i64 cut] w (RetTrue w) := by
  clear hcut
  have HL : Hid (ls.length = n) := by have := ha.1; have := hv.1; unfold Hid; omega
  by_cases hl : 20 < n
  · unfold maxLen at hc
    go_enter Try.func7, Try.ntmps7
    go_wp2_with (go_at_call 9; refine (awake_any _).mono ?_; rintro e w' ⟨rfl, hb⟩)
    go_ret
    exact ⟨rfl, hb⟩
  have hn : n ≤ 20 := by omega
  clear hl
  by_cases ht : 3000 < totalL ls 3000
  · unfold maxLen at hc
    go_enter Try.func7, Try.ntmps7
    go_wp2_with fail
    refine (total_any A n c vs ls 3000 _ ha hv (by unfold maxLen; omega) (by omega)).mono ?_
    rintro e w1 ⟨rfl, hb1⟩
    go_wp2_with (go_at_call 9; refine (awake_any _).mono ?_; rintro e w' ⟨rfl, hb⟩)
    go_ret
    exact RetTrue.from hb1 ⟨rfl, hb⟩
  have ht' : totalL ls 3000 ≤ 3000 := by omega
  clear ht
  have hsum := totalL_small (by unfold sumMost; omega) ht'
  have HQ : Hid (∀ q ∈ ls, q.length ≤ 3000) := fun q hq => by have := len_le_sum ls q hq; omega
  have HE : Hid (∀ i, endAt ls i ≤ 4000) := fun i => by have := endAt_le ls i; have := HL.out; omega
  have HS : Hid (∀ i l, ls[i]? = some l → endAt ls (i + 1) = endAt ls i + (l.length + 8)) := fun i l h => endAt_succ h
  clear hsum
  go_enter Try.func7, Try.ntmps7
  go_wp2_with fail
  refine (total_any A n c vs ls 3000 _ ha hv (by unfold maxLen; omega) (by omega)).mono ?_
  rintro e w1 ⟨rfl, hb1⟩
  have hz1 := hb1.size
  have hn0 := own_new w1 (nums [0]) 3 w1.heap.size (Nat.le_refl _) (by decide)
  go_wp2_with fail
  go_loopw [5, 6, 7] (fun vb ve i wr => ∃ k : Nat, k ≤ n ∧ i = .int .i64 k ∧ wr.ownsRow w1.heap.size 5 1 vb (endAt ls k) (bc (putsL (ls.take k))) ∧ wr.ownsRow w1.heap.size 3 1 ve (k + 1) (nums (endsL ls (k + 1))) ∧ Below w1.heap.size w1 wr) (fun _ _ i _ => n - (intOf i).toNat)
  case atStart => exact ⟨0, Nat.zero_le _, rfl, by rw [endAt_zero]; exact World.ownsRow_nil _ _ _ _, by rw [endsL_one]; exact hn0, (Below.refl _ _).alloc (Nat.le_refl _) _⟩
  case round =>
    clear hn0
    obtain ⟨k, hk, rfl, hvb, hve, hb⟩ := hrel
    have hz := hb.size
    have hb0 := hb1.trans (hb.mono hz1)
    by_cases hlt : k < n
    · obtain ⟨ad, u, rfl, hu, hca⟩ := (ha.below hb0).at' hlt
      obtain ⟨l, hl⟩ : ∃ l, ls[k]? = some l := ⟨_, List.getElem?_eq_getElem (by have := HL.out; omega)⟩
      obtain ⟨A1, c1, rfl, hc1, hm1, hr1⟩ := hv.2 k u l hu hl
      have hr2 := (hr1.below hb0).more (show w.heap.size ≤ wr.heap.size by omega)
      have hlen := HQ.out l (List.mem_of_getElem? hl)
      have hek := HE.out k
      have HK := Lib.hid (HS.out k l hl)
      have HX := Lib.hid hl
      have HPL := Lib.hid (putL_length l)
      clear hu hl
      go_wp2_with fail
      refine (fput_yes A1 _ c1 l _ hr2 (by omega)).mono ?_
      rintro e w2 ⟨A2, c2, rfl, ho2, hb2⟩
      have hz2 := hb2.size
      have hpl : (putL l).length ≤ 4000 ∧ 0 < (putL l).length := by rw [HPL.out]; omega
      obtain ⟨hpl1, hpl2⟩ := hpl
      have hvb2 := own_below hvb hb2 (Nat.le_refl _)
      have hve2 := own_below hve hb2 (Nat.le_refl _)
      clear hvb hve
      go_wp2_with (first
        | (at_builtin; refine app_own_bytes _ rfl (.tmp 41) (.tmp 42) rfl w1.heap.size _ _ _ rfl hvb2 _ _ _ _ _ rfl ho2 hpl2 (by omega) (by omega) ?_; intro v3 w3 ho3 hg3 hb3; obtain ⟨A3, c3, rfl, _⟩ := Owns.form (.inl ho3); have hve3 := own_grown hve2 hvb2 (by decide) hg3)
        | (at_builtin; refine app_ints _ rfl (.tmp 44) (.tmp 47) rfl w1.heap.size _ _ _ rfl (hve3.alloc _) ⟨w3.heap.size, 0, none⟩ 1 1 _ rfl rfl (cell_one_new _ _ _) one1 (by omega) (le_alloc' (by have := hb3.size; omega)) ?_; intro v4 w4 ho4 hg4 hb4))
      have hvb4 := own_grown (ho3.alloc (.cells #[.int .i64 ((endAt ls k : Int) + ((putL l).length : Int))] 3)) (hve3.alloc _) (by decide) hg4
      have e1 : endAt ls (k + 1) = endAt ls k + (putL l).length := by rw [HK.out, HPL.out]
      have hvb5 : w4.ownsRow w1.heap.size 5 1 (.slice A3 (endAt ls k + (putL l).length) c3) (endAt ls (k + 1)) (bc (putsL (ls.take (k + 1)))) := by
        rw [e1, putsL_snoc HX.out, bc, Lib.byteCells_append]; exact hvb4
      have hve5 : w4.ownsRow w1.heap.size 3 1 v4 (k + 1 + 1) (nums (endsL ls (k + 1 + 1))) := by
        rw [endsL_snoc ls (k + 1), nums_snoc, e1, Int.natCast_add]; exact ho4
      have hb5 : Below w1.heap.size w1 w4 := (((hb.trans (hb2.mono hz)).trans hb3).alloc (by have := hb3.size; omega) _).trans hb4
      have HV := Lib.hid hvb5
      have HW := Lib.hid hve5
      have HB := Lib.hid hb5
      clear hvb5 hve5 hb5 e1 hvb4
      go_roundw
      case rel => exact ⟨k + 1, by omega, by go_num, HV.out, HW.out, HB.out⟩
      case measure => simp [intOf]; omega
    · have hge : n ≤ k := by omega
      obtain rfl : n = k := by omega
      clear hlt
      have e1 : endAt ls n = (putsL ls).length := by have := endAt_all ls; rw [HL.out] at this; exact this
      have e2 : ls.take n = ls := List.take_of_length_le (by rw [HL.out]; exact Nat.le_refl _)
      rw [e2] at hvb
      have HE1 := Lib.hid e1
      clear e1 e2
      have hen := HE.out n
      obtain ⟨Ab, cb, rfl, hcb, hmb, hrb⟩ := Owns.form (.inl hvb)
      obtain ⟨g, ce, rfl, hce, hme, hg0, hg1, hcell⟩ := own_open hve (by omega)
      have HCELL : Hid (∀ j, j ≤ n → wr.cell? ⟨g, j, none⟩ = some (.int .i64 (endAt ls j : Int))) := fun j hj => hcell j _ (by simp [nums, endsL_get (show j < n + 1 by omega)])
      clear hcell hvb hve
      obtain ⟨r, hr, hrlt⟩ : ∃ r : Nat, roundZ cut ((endAt ls n : Int) + 1) = r ∧ r ≤ endAt ls n := by
        have h := roundZ_bd cut ((endAt ls n : Int) + 1) (by omega)
        obtain ⟨r, hr⟩ := Int.eq_ofNat_of_zero_le h.1
        exact ⟨r, hr, by omega⟩
      have HR := Lib.hid hr
      clear hr
      unfold maxLen at hmb hme
      go_wp2_with fail
      refine (round_any cut _ _ (by omega) (by omega)).mono ?_
      rintro e w' ⟨he, rfl⟩
      rw [HR.out] at he
      subst he
      go_wp2
      go_loop [10] (fun x => ∃ m : Nat, m ≤ n ∧ x = .int .i64 m ∧ Hid (endAt ls m ≤ r)) (fun x => n - (intOf x).toNat)
      case atStart => exact ⟨0, Nat.zero_le _, rfl, by rw [endAt_zero]; exact Nat.zero_le _⟩
      case round =>
        obtain ⟨m, hm, rfl, hem⟩ := hrel
        by_cases hgo : m < n ∧ endAt ls (m + 1) ≤ r
        · obtain ⟨hmn, hle⟩ := hgo
          have hc1 := HCELL.out (m + 1) (by omega)
          go_wp2
          go_round
          case rel => exact ⟨m + 1, by omega, by go_num, hle⟩
          case measure => simp [intOf]; omega
        · -- the cut is met: within a frame, or at an end
          have hdone : ∃ kk : Nat, scanL ((putsL ls).take r) = (ls.take m, endAt ls m, kk) ∧ ((endAt ls m = r ∧ kk = 1) ∨ (endAt ls m < r ∧ kk = 2)) := by
            by_cases heq : endAt ls m = r
            · exact ⟨1, by rw [scan_at_end (fun q hq => by have := HQ.out q hq; omega) heq, heq], .inl ⟨heq, rfl⟩⟩
            · have hem' := hem.out
              have hmn : m < n := by
                rcases Nat.lt_or_ge m n with h | h
                · exact h
                · obtain rfl : m = n := by omega
                  omega
              obtain ⟨l, hl⟩ : ∃ l, ls[m]? = some l := ⟨_, List.getElem?_eq_getElem (by have := HL.out; omega)⟩
              exact ⟨2, scan_in_frame (fun q hq => by have := HQ.out q hq; omega) hl (by omega) (by omega), .inr ⟨by omega, rfl⟩⟩
          obtain ⟨kk, hscan, hkk⟩ := hdone
          have HSC := Lib.hid hscan
          have hways : n ≤ m ∨ (m < n ∧ r < endAt ls (m + 1) ∧ wr.cell? ⟨g, m + 1, none⟩ = some (.int .i64 (endAt ls (m + 1) : Int))) := by
            rcases Nat.lt_or_ge m n with h | h
            · exact .inr ⟨h, by omega, HCELL.out (m + 1) (by omega)⟩
            · exact .inl h
          have hcm := HCELL.out m hm
          have hrr := hrb.take_ (k := r) hrlt
          rw [Nat.mul_one, bc_take] at hrr
          have hrc : r ≤ cb := by omega
          have hmb' : cb ≤ maxLen := by unfold maxLen; omega
          have hb0 := hb1.trans (hb.mono hz1)
          have hz0 := hb0.size
          have hlm : (ls.take m).length = m := by rw [List.length_take, HL.out]; omega
          have HLM := Lib.hid hlm
          have HTR := Lib.hid (show AreBytes w w.heap.size (vs.take m) (ls.take m) from hv.take_ m)
          have hram := ha.take_ (k := m) hm
          rw [Nat.mul_one] at hram
          clear hgo hscan hlm HCELL hrb
          rcases hways with hx | ⟨hx, hy, hc1⟩ <;> rcases hkk with ⟨hq, rfl⟩ | ⟨hq, rfl⟩
          all_goals
            first
              | (have hbq : ((endAt ls m : Int) == (r : Int)) = true := (by rw [beq_iff_eq]; omega))
              | (have hbq : ((endAt ls m : Int) == (r : Int)) = false := (by rw [beq_eq_false_iff_ne]; omega))
            have HQ' := Lib.hid hq
            clear hq
            go_wp2_with fail
            refine (scan_any _ _ _ _ _ hrr hrc hmb' (by omega)).mono ?_
            rintro e w5 h5
            obtain ⟨A5, c5, vs5, rfl, ho5, hall5, hb5⟩ := h5.eq HSC.out
            clear h5
            have hz5 := hb5.size
            rw [HLM.out] at ho5 ⊢
            have hcm5 : w5.cell? ⟨g, m, none⟩ = some (.int .i64 (endAt ls m : Int)) := (hb5.cell (p := ⟨g, m, none⟩) hg1).trans hcm
            have r5 := Reads.of_own ho5
            have rl := (hram.below hb0).below (hb5.mono hz0)
            have a5 := hall5.reads
            have al := (HTR.out.below hb0).below (hb5.mono hz0)
            go_wp2_with fail
            refine (rows_same _ _ _ _ _ _ _ _ _ r5 rl a5 al (by unfold maxLen; omega)).mono ?_
            rintro e w6 ⟨rfl, m6, rfl⟩
            go_wp2_with (go_at_call 9; refine (awake_any _).mono ?_; rintro e w' ⟨rfl, hb⟩)
            go_ret
            exact RetTrue.from (below_drewN (hb0.trans (hb5.mono hz0)) _) ⟨rfl, hb⟩
end Go.Proofs.Ytpacbdfingbhgaa
