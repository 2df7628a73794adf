import Derived.Test.YtbgnmkjjfaepiaaRingSplitR
import Derived.Test.YtbgnmkjjfaepiaaRingSetR
import Derived.Test.YtbgnmkjjfaepiaaRingAwake
import Derived.Test.YtbgnmkjjfaepiaaRingFrame
namespace Go.Proofs.Ytbgnmkjjfaepiaa
open Go.RowKit
set_option linter.unusedVariables false

set_option maxRecDepth 100000 in
set_option maxHeartbeats 8000000 in
theorem ringChanges_walk (w : World) (A : Option Addr) (n c : Nat) (l : List Rg) (hr : Reads w w.heap.size 4 A n (rowCells l)) (hw : ∀ r ∈ l, r.wf) (hl : l.length = n) (hnc : n ≤ c) (hm : c ≤ maxLen)
    (hsh : Int) (w1 : (Lit.int .i64 hsh).wf = true) (r : Rg) (hrw : r.wf) :
    Calls Try.prog 9 #[.slice A n c, .int .i64 hsh, r.val] w (RetTrue w) := by
  have hn : n ≤ maxLen := Nat.le_trans hnc hm
  have HSM : Hid (∀ W, Calls Try.prog 10 #[.slice A n c] W fun e w' => e = .returned (.bool (decide (n ≤ 80))) ∧ W = w') := Lib.hid fun W => small_any W A n c hn
  obtain ⟨hs0, hs1⟩ := wf_int w1
  by_cases h1 : n ≤ 80
  · have h1d : decide (n ≤ 80) = true := by simpa using h1
    obtain ⟨ra, rb, rc, rd⟩ := r
    obtain ⟨m, e1, hsp⟩ : ∃ m e, splitL l hsh = (m, e) := ⟨_, _, rfl⟩
    obtain ⟨m2, e2, hst⟩ : ∃ m e, setL l ⟨ra, rb, rc, rd⟩ = (m, e) := ⟨_, _, rfl⟩
    have HSP : Hid (∀ W, Below w.heap.size w W → Calls Try.prog 25 #[.slice A n c, .int .i64 hsh] W (RetRow W m e1)) := Lib.hid fun W hb => by
      have := split_any W A n c l hsh ((hr.below hb).more hb.size) hw hl hnc hm hs0 hs1
      rwa [hsp] at this
    have HSR : Hid (∀ W, Below w.heap.size w W → Calls Try.prog 26 #[.slice A n c, .int .i64 hsh] W (RetRow W m e1)) := Lib.hid fun W hb => by
      have := splitRef_any W A n c l hsh ((hr.below hb).more hb.size) hw hl hnc hm
      rwa [hsp] at this
    have HST : Hid (∀ W, Below w.heap.size w W → Calls Try.prog 22 #[.slice A n c, .agg #[.int .i64 ra, .int .i64 rb, .int .i64 rc, .int .i64 rd]] W (RetRow W m2 e2)) := Lib.hid fun W hb => by
      have := set_any W A n c l ⟨ra, rb, rc, rd⟩ ((hr.below hb).more hb.size) hw hl hn (by omega)
      rwa [hst] at this
    have HSTR : Hid (∀ W, Below w.heap.size w W → Calls Try.prog 27 #[.slice A n c, .agg #[.int .i64 ra, .int .i64 rb, .int .i64 rc, .int .i64 rd]] W (RetRow W m2 e2)) := Lib.hid fun W hb => by
      have := setRing_any W A n c l ⟨ra, rb, rc, rd⟩ ((hr.below hb).more hb.size) hw hrw hl hn (by omega)
      rwa [hst] at this
    unfold Rg.val
    simp only
    clear hsp hst hr hw hl hrw w1
    go_enter Try.func9, Try.ntmps9
    go_upto_region 3 with (first
      | (refine wpList_unguard rfl ?_)
      | (go_at_call 10; refine (HSM.out _).mono ?_; rintro e w' ⟨rfl, rfl⟩))
    have K0 : Hid (Below w.heap.size w (w.alloc (.cells #[.int .i64 ra, .int .i64 rb, .int .i64 rc, .int .i64 rd] 31))) := Lib.hid ((Below.refl _ _).alloc (Nat.le_refl _) _)
    have HX : Hid ((w.alloc (.cells #[.int .i64 ra, .int .i64 rb, .int .i64 rc, .int .i64 rd] 31)).rangeAt w.heap.size 0 (Rg.cells ⟨ra, rb, rc, rd⟩) ∧ w.heap.size < (w.alloc (.cells #[.int .i64 ra, .int .i64 rb, .int .i64 rc, .int .i64 rd] 31)).heap.size) := Lib.hid ⟨range_new w (Rg.cells ⟨ra, rb, rc, rd⟩) _, by rw [alloc_size]; omega⟩
    generalize (w.alloc (.cells #[.int .i64 ra, .int .i64 rb, .int .i64 rc, .int .i64 rd] 31)) = w0 at *
    go_upto_region 5 with (first
      | (go_at_call 25; refine (HSP.out _ K0.out).mono ?_; rintro e w3 ⟨A3, c3, rfl, hc3, hm3, hr3, hb3⟩)
      | (go_at_call 26; refine (HSR.out _ (K0.out.trans (hb3.mono K0.out.size))).mono ?_; rintro e w4 ⟨A4, c4, rfl, hc4, hm4, hr4, hb4⟩))
    have k4 : Hid (Below w0.heap.size w0 w4) := Lib.hid (hb3.trans (hb4.mono hb3.size))
    have x4 : Hid (w4.rangeAt w.heap.size 0 (Rg.cells ⟨ra, rb, rc, rd⟩)) := Lib.hid (range_below_at HX.out.1 k4.out HX.out.2)
    have HB3 := Lib.hid hb3
    have HB4 := Lib.hid hb4
    have HR3 := Lib.hid hr3
    have HR4 := Lib.hid hr4
    clear hb3 hb4 hr3 hr4
    go_upto_region 6 with (first
      | (go_at_call 22; refine (HST.out _ (K0.out.trans (k4.out.mono K0.out.size))).mono ?_; rintro e w5 ⟨A5, c5, rfl, hc5, hm5, hr5, hb5⟩)
      | (refine wpList_load_mid rfl 31 _ rfl w.heap.size 0 rfl [Value.int .i64 ra, .int .i64 rb, .int .i64 rc, .int .i64 rd] _ x4.out Try.underlying31 rfl (by kernel_rfl) ?_))
    have k5 : Hid (Below w0.heap.size w0 w5) := Lib.hid (k4.out.trans (hb5.mono k4.out.size))
    have x5 : Hid (w5.rangeAt w.heap.size 0 (Rg.cells ⟨ra, rb, rc, rd⟩)) := Lib.hid (range_below_at HX.out.1 k5.out HX.out.2)
    have HB5 := Lib.hid hb5
    have HR5 := Lib.hid hr5
    clear hb5 hr5
    go_upto_region 7 with (first
      | (go_at_call 27; refine (HSTR.out _ (K0.out.trans (k5.out.mono K0.out.size))).mono ?_; rintro e w6 ⟨A6, c6, rfl, hc6, hm6, hr6, hb6⟩)
      | (refine wpList_load_mid rfl 31 _ rfl w.heap.size 0 rfl [Value.int .i64 ra, .int .i64 rb, .int .i64 rc, .int .i64 rd] _ x5.out Try.underlying31 rfl (by kernel_rfl) ?_))
    have K6 : Hid (Below w.heap.size w w6) := Lib.hid (K0.out.trans ((k5.out.trans (hb6.mono k5.out.size)).mono K0.out.size))
    have H3 := Lib.hid ((HR3.out.below HB4.out).below ((HB5.out.trans (hb6.mono HB5.out.size)).mono HB4.out.size))
    have H4 := Lib.hid (HR4.out.below (HB5.out.trans (hb6.mono HB5.out.size)))
    have H5 := Lib.hid (HR5.out.below hb6)
    have H6 := Lib.hid hr6
    have HL1 : Hid (m.length ≤ maxLen ∧ m2.length ≤ maxLen) := Lib.hid ⟨Nat.le_trans hc3 hm3, Nat.le_trans hc5 hm5⟩
    have HSAME1 : Hid (Calls Try.prog 18 #[.slice A3 m.length c3, .slice A4 m.length c4] w6 (YesDrew w6)) := Lib.hid (same_any w6 A3 A4 m.length c3 c4 _ _ m H3.out H4.out rfl HL1.out.1)
    have HSAME2 : Hid (∀ q, Calls Try.prog 18 #[.slice A5 m2.length c5, .slice A6 m2.length c6] (w6.drewN q) (YesDrew (w6.drewN q))) := Lib.hid fun q => same_any (w6.drewN q) A5 A6 m2.length c5 c6 _ _ m2 (Reads.drewN H5.out q) (Reads.drewN H6.out q) rfl HL1.out.2
    clear H3 H4 H5 H6
    generalize m.length = mL at *
    generalize m2.length = mL2 at *
    clear hb6 hr6
    have EN1 : (e1 == e1) = true := by simp
    have EN2 : (e2 == e2) = true := by simp
    go_wp2_with (first
      | (refine wpList_unguard rfl ?_)
      | (go_at_call 18; (with_reducible refine (HSAME1.out).mono ?_); rintro e w' ⟨rfl, m1, rfl⟩)
      | (go_at_call 18; (with_reducible refine (HSAME2.out m1).mono ?_); rintro e w' ⟨rfl, m3, rfl⟩)
      | (go_at_call 11; refine (awake_any _).mono ?_; rintro e w' ⟨rfl, hb⟩))
    go_ret
    exact RetTrue.from (below_drewN K6.out _) ⟨rfl, hb⟩
  · have h1d : decide (n ≤ 80) = false := by simpa using h1
    unfold Rg.val
    have K0 := ((Below.refl w.heap.size w).alloc (Nat.le_refl _) (.cells #[.int .i64 r.a, .int .i64 r.b, .int .i64 r.c, .int .i64 r.d] 31))
    have K0' := Lib.hid K0
    clear hr hw hl K0
    go_enter Try.func9, Try.ntmps9
    go_wp2_with (first
      | (refine wpList_unguard rfl ?_)
      | (go_at_call 10; refine (HSM.out _).mono ?_; rintro e w' ⟨rfl, rfl⟩)
      | (go_at_call 11; refine (awake_any _).mono ?_; rintro e w' ⟨rfl, hb⟩))
    go_ret
    exact RetTrue.from K0'.out ⟨rfl, hb⟩
end Go.Proofs.Ytbgnmkjjfaepiaa
