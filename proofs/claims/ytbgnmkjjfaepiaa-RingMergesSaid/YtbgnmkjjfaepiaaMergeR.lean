import Derived.Test.YtbgnmkjjfaepiaaMix
import Derived.Test.YtbgnmkjjfaepiaaMerge
import Derived.Test.YtbgnmkjjfaepiaaRingSoundR
import Derived.Test.YtbgnmkjjfaepiaaRingAwake
import Derived.Test.YtbgnmkjjfaepiaaRingFrame
namespace Go.Proofs.Ytbgnmkjjfaepiaa
open Go.RowKit
set_option linter.unusedVariables false

section
variable (w : World) (A1 A2 : Option Addr) (n1 c1 n2 c2 : Nat) (l m : List Rg) (self : Int)
  (hr1 : Reads w w.heap.size 4 A1 n1 (rowCells l)) (hw1 : ∀ r ∈ l, r.wf) (hl1 : l.length = n1) (hn1 : n1 ≤ 1000) (hnc1 : n1 ≤ c1) (hm1 : c1 ≤ maxLen)
  (hr2 : Reads w w.heap.size 4 A2 n2 (rowCells m)) (hw2 : ∀ r ∈ m, r.wf) (hl2 : m.length = n2) (hn2 : n2 ≤ 1000)
include hr1 hw1 hl1 hn1 hr2 hw2 hl2 hn2 hnc1 hm1

set_option maxRecDepth 100000 in
set_option maxHeartbeats 8000000 in
theorem mergeRing_any : Calls Try.prog 24 #[.slice A1 n1 c1, .slice A2 n2 c2, .int .i64 self] w (RetRs w (mergeR l m self)) := by
  obtain ⟨q1, HQ1⟩ : ∃ q, Hid (soundL l = q) := ⟨_, Lib.hid rfl⟩
  obtain ⟨q2, HQ2⟩ : ∃ q, Hid (soundL m = q) := ⟨_, Lib.hid rfl⟩
  have HS1 : Hid (∀ W, Below w.heap.size w W → Calls Try.prog 20 #[.slice A1 n1 c1] W (RetB W q1)) := Lib.hid fun W hb => by
    rw [← HQ1.out]; exact soundRing_any W A1 n1 c1 l ((hr1.below hb).more hb.size) hw1 hl1 (by simp [maxLen]; omega)
  have HS2 : Hid (∀ W, Below w.heap.size w W → Calls Try.prog 20 #[.slice A2 n2 c2] W (RetB W q2)) := Lib.hid fun W hb => by
    rw [← HQ2.out]; exact soundRing_any W A2 n2 c2 m ((hr2.below hb).more hb.size) hw2 hl2 (by simp [maxLen]; omega)
  have HM : Hid (soundL l = true → soundL m = true → ∀ W, Below w.heap.size w W → Calls Try.prog 34 #[.slice A1 n1 c1, .slice A2 n2 c2, .int .i64 self, .bool false] W (RetRowB W (mergeL l m self) (decide ((mergeL l m self).length ≤ 64)))) :=
    Lib.hid fun s1 s2 W hb => mix_any W A1 A2 n1 c1 n2 c2 l m self ((hr1.below hb).more hb.size) hl1 ((hr2.below hb).more hb.size) hl2 s1 s2
  have HSAME : Hid (∀ W, Below w.heap.size w W → RetRs w l (.returned (.slice A1 n1 c1)) W) := Lib.hid fun W hb => ⟨A1, c1, by rw [hl1], by omega, hm1, by rw [hl1]; exact (hr1.below hb).more hb.size, hb⟩
  clear hr1 hw1 hl1 hr2 hw2 hl2 hm1
  cases q1
  · have HE : Hid (mergeR l m self = l) := Lib.hid (by unfold mergeR; rw [if_neg (by rw [HQ1.out]; simp)])
    go_enter Try.func24, Try.ntmps24
    go_wp2_with (first
      | (refine wpList_unguard rfl ?_)
      | (go_at_call 20; ((with_reducible refine (HS1.out _ (Below.refl _ _)).mono ?_); rintro e w1 ⟨rfl, hb1⟩)))
    go_ret
    rw [HE.out]
    exact HSAME.out _ hb1
  cases q2
  · have HE : Hid (mergeR l m self = l) := Lib.hid (by unfold mergeR; rw [if_neg (by rw [HQ2.out]; simp)])
    go_enter Try.func24, Try.ntmps24
    go_wp2_with (first
      | (refine wpList_unguard rfl ?_)
      | (go_at_call 20; ((with_reducible refine (HS1.out _ (Below.refl _ _)).mono ?_); rintro e w1 ⟨rfl, hb1⟩))
      | (go_at_call 20; ((with_reducible refine (HS2.out _ hb1).mono ?_); rintro e w2 ⟨rfl, hb2⟩; have hb2 := hb1.trans (hb2.mono hb1.size))))
    go_ret
    rw [HE.out]
    exact HSAME.out _ hb2
  have HM2 : Hid (∀ W, Below w.heap.size w W → Calls Try.prog 34 #[.slice A1 n1 c1, .slice A2 n2 c2, .int .i64 self, .bool false] W (RetRowB W (mergeL l m self) (decide ((mergeL l m self).length ≤ 64)))) := Lib.hid (HM.out HQ1.out HQ2.out)
  obtain ⟨o, HO⟩ : ∃ o, Hid (mergeL l m self = o) := ⟨_, Lib.hid rfl⟩
  rw [HO.out] at HM2
  by_cases h64 : o.length ≤ 64
  · have HE : Hid (mergeR l m self = o) := Lib.hid (by unfold mergeR; rw [HO.out, if_pos ⟨HQ1.out, HQ2.out, h64⟩])
    rw [decide_eq_true h64] at HM2
    clear h64
    generalize HG : o.length = q at *
    go_enter Try.func24, Try.ntmps24
    have HG' := Lib.hid HG
    clear HG
    go_wp2_with (first
      | (refine wpList_unguard rfl ?_)
      | (go_at_call 20; ((with_reducible refine (HS1.out _ (Below.refl _ _)).mono ?_); rintro e w1 ⟨rfl, hb1⟩))
      | (go_at_call 20; ((with_reducible refine (HS2.out _ hb1).mono ?_); rintro e w2 ⟨rfl, hb2⟩; have hb2 := hb1.trans (hb2.mono hb1.size)))
      | (go_at_call 34; ((with_reducible refine (HM2.out _ hb2).mono ?_); rintro e w3 ⟨A3, c3, rfl, hc3, hm3, hr3, hb3⟩; have HC3 := Lib.hid hc3; have HR3 := Lib.hid hr3; clear hc3 hr3)))
    go_ret
    rw [HE.out]
    exact ⟨A3, c3, rfl, HC3.out, hm3, HR3.out, hb2.trans (hb3.mono hb2.size)⟩
  · have HE : Hid (mergeR l m self = l) := Lib.hid (by unfold mergeR; rw [HO.out, if_neg (fun h => h64 h.2.2)])
    rw [decide_eq_false h64] at HM2
    clear h64
    go_enter Try.func24, Try.ntmps24
    go_wp2_with (first
      | (refine wpList_unguard rfl ?_)
      | (go_at_call 20; ((with_reducible refine (HS1.out _ (Below.refl _ _)).mono ?_); rintro e w1 ⟨rfl, hb1⟩))
      | (go_at_call 20; ((with_reducible refine (HS2.out _ hb1).mono ?_); rintro e w2 ⟨rfl, hb2⟩; have hb2 := hb1.trans (hb2.mono hb1.size)))
      | (go_at_call 34; ((with_reducible refine (HM2.out _ hb2).mono ?_); rintro e w3 ⟨A3, c3, rfl, hc3, hm3, hr3, hb3⟩; have HC3 := Lib.hid hc3; have HR3 := Lib.hid hr3; clear hc3 hr3)))
    go_ret
    rw [HE.out]
    exact HSAME.out _ (hb2.trans (hb3.mono hb2.size))

set_option maxRecDepth 100000 in
set_option maxHeartbeats 8000000 in
theorem ringMerges_big (w1 : (Lit.int .i64 self).wf = true) : n1 ≤ 80 → n2 ≤ 80 → Calls Try.prog 5 #[.slice A1 n1 c1, .slice A2 n2 c2, .int .i64 self] w (RetTrue w) := by
  intro h1 h2
  have HSM1 : Hid (∀ W, Calls Try.prog 10 #[.slice A1 n1 c1] W fun e w' => e = .returned (.bool (decide (n1 ≤ 80))) ∧ W = w') := Lib.hid fun W => small_any W A1 n1 c1 (by simp [maxLen]; omega)
  have HSM2 : Hid (∀ W, Calls Try.prog 10 #[.slice A2 n2 c2] W fun e w' => e = .returned (.bool (decide (n2 ≤ 80))) ∧ W = w') := Lib.hid fun W => small_any W A2 n2 c2 (by simp [maxLen]; omega)
  have HMG : Hid (∀ W, Below w.heap.size w W → Calls Try.prog 23 #[.slice A1 n1 c1, .slice A2 n2 c2, .int .i64 self] W (RetRs W (mergeR l m self))) :=
    Lib.hid fun W hb => merge_any W A1 A2 n1 c1 n2 c2 l m self ((hr1.below hb).more hb.size) hw1 hl1 hn1 ((hr2.below hb).more hb.size) hw2 hl2 hn2
  have HMR : Hid (∀ W, Below w.heap.size w W → Calls Try.prog 24 #[.slice A1 n1 c1, .slice A2 n2 c2, .int .i64 self] W (RetRs W (mergeR l m self))) :=
    Lib.hid fun W hb => mergeRing_any W A1 A2 n1 c1 n2 c2 l m self ((hr1.below hb).more hb.size) hw1 hl1 hn1 hnc1 hm1 ((hr2.below hb).more hb.size) hw2 hl2 hn2
  generalize mergeR l m self = o at *
  have h1d : decide (n1 ≤ 80) = true := by simpa using h1
  have h2d : decide (n2 ≤ 80) = true := by simpa using h2
  clear hr1 hw1 hl1 hr2 hw2 hl2 hm1
  go_enter Try.func5, Try.ntmps5
  go_wp2_with (first
    | (refine wpList_unguard rfl ?_)
    | (go_at_call 10; ((with_reducible refine (HSM1.out _).mono ?_); rintro e w' ⟨rfl, rfl⟩))
    | (go_at_call 10; ((with_reducible refine (HSM2.out _).mono ?_); rintro e w' ⟨rfl, rfl⟩))
    | (go_at_call 23; ((with_reducible refine (HMG.out _ (Below.refl _ _)).mono ?_); rintro e w3 ⟨A3, c3, rfl, hc3, hm3, hr3, hb3⟩; have HC3 := Lib.hid hc3; have HR3 := Lib.hid hr3; have HB3 := Lib.hid hb3; clear hc3 hr3 hb3))
    | (go_at_call 24; ((with_reducible refine (HMR.out _ HB3.out).mono ?_); rintro e w4 ⟨A4, c4, rfl, hc4, hm4, hr4, hb4⟩; have HC4 := Lib.hid hc4; have HR4 := Lib.hid hr4; have HB4 := Lib.hid hb4; clear hc4 hr4 hb4))
    | (go_at_call 18; ((with_reducible refine (same_any w4 A3 A4 o.length c3 c4 _ _ o (HR3.out.below HB4.out) HR4.out rfl (Nat.le_trans HC3.out hm3)).mono ?_); rintro e w' ⟨rfl, m1, rfl⟩))
    | (go_at_call 11; ((with_reducible refine (awake_any _).mono ?_); rintro e w' ⟨rfl, hb⟩)))
  go_ret
  exact RetTrue.from (below_drewN (HB3.out.trans (HB4.out.mono HB3.out.size)) _) ⟨rfl, hb⟩
end

set_option maxRecDepth 100000 in
set_option maxHeartbeats 8000000 in
theorem ringMerges_walk (w : World) (A1 : Option Addr) (n1 c1 : Nat) (l : List Rg) (hr1 : Reads w w.heap.size 4 A1 n1 (rowCells l)) (hw1 : ∀ r ∈ l, r.wf) (hl1 : l.length = n1) (hnc1 : n1 ≤ c1) (hm1 : c1 ≤ maxLen)
    (A2 : Option Addr) (n2 c2 : Nat) (m : List Rg) (hr2 : Reads w w.heap.size 4 A2 n2 (rowCells m)) (hw2 : ∀ r ∈ m, r.wf) (hl2 : m.length = n2) (hnc2 : n2 ≤ c2) (hm2 : c2 ≤ maxLen) (self : Int) (w1 : (Lit.int .i64 self).wf = true) :
    Calls Try.prog 5 #[.slice A1 n1 c1, .slice A2 n2 c2, .int .i64 self] w (RetTrue w) := by
  by_cases h1 : n1 ≤ 80
  · by_cases h2 : n2 ≤ 80
    · exact ringMerges_big w A1 A2 n1 c1 n2 c2 l m self hr1 hw1 hl1 (by omega) hnc1 hm1 hr2 hw2 hl2 (by omega) w1 h1 h2
    have HSM1 : Hid (∀ W, Calls Try.prog 10 #[.slice A1 n1 c1] W fun e w' => e = .returned (.bool (decide (n1 ≤ 80))) ∧ W = w') := Lib.hid fun W => small_any W A1 n1 c1 (by omega)
    have HSM2 : Hid (∀ W, Calls Try.prog 10 #[.slice A2 n2 c2] W fun e w' => e = .returned (.bool (decide (n2 ≤ 80))) ∧ W = w') := Lib.hid fun W => small_any W A2 n2 c2 (by omega)
    have h1d : decide (n1 ≤ 80) = true := by simpa using h1
    have h2d : decide (n2 ≤ 80) = false := by simpa using h2
    clear hr1 hw1 hl1 hr2 hw2 hl2
    go_enter Try.func5, Try.ntmps5
    go_wp2_with (first
      | (refine wpList_unguard rfl ?_)
      | (go_at_call 10; ((with_reducible refine (HSM1.out _).mono ?_); rintro e w' ⟨rfl, rfl⟩))
      | (go_at_call 10; ((with_reducible refine (HSM2.out _).mono ?_); rintro e w' ⟨rfl, rfl⟩))
      | (go_at_call 11; ((with_reducible refine (awake_any _).mono ?_); rintro e w' ⟨rfl, hb⟩)))
    go_ret
    exact ⟨rfl, hb⟩
  · have HSM1 : Hid (∀ W, Calls Try.prog 10 #[.slice A1 n1 c1] W fun e w' => e = .returned (.bool (decide (n1 ≤ 80))) ∧ W = w') := Lib.hid fun W => small_any W A1 n1 c1 (by omega)
    have h1d : decide (n1 ≤ 80) = false := by simpa using h1
    clear hr1 hw1 hl1 hr2 hw2 hl2
    go_enter Try.func5, Try.ntmps5
    go_wp2_with (first
      | (refine wpList_unguard rfl ?_)
      | (go_at_call 10; ((with_reducible refine (HSM1.out _).mono ?_); rintro e w' ⟨rfl, rfl⟩))
      | (go_at_call 11; ((with_reducible refine (awake_any _).mono ?_); rintro e w' ⟨rfl, hb⟩)))
    go_ret
    exact ⟨rfl, hb⟩
end Go.Proofs.Ytbgnmkjjfaepiaa
