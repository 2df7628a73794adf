import Derived.Test.YtbgnmkjjfaepiaaRing
namespace Go.Proofs.Ytbgnmkjjfaepiaa
open Go.RowKit
set_option linter.unusedVariables false
set_option maxRecDepth 100000 in
set_option maxHeartbeats 4000000 in
/-- penstockref13.SoundRing: the document's answer. -/
theorem soundRing_any (w : World) (A : Option Addr) (n c : Nat) (l : List Rg) (hr : Reads w w.heap.size 4 A n (rowCells l)) (hw : ∀ r ∈ l, r.wf) (hl : l.length = n) (hn : n ≤ maxLen) :
    Calls Try.prog 20 #[.slice A n c] w (RetB w (soundL l)) := by
  have HL := Lib.hid hl
  unfold maxLen at hn
  go_enter Try.func20, Try.ntmps20
  go_wp2
  go_loopw [3, 4] (fun nx i wr => ∃ (k : Nat) (x : Int), k ≤ n ∧ i = .int .i64 k ∧ nx = .int .i64 x ∧ 0 ≤ x ∧ x ≤ 4294967296 ∧ soundGo x (l.drop k) = soundGo 0 l ∧ Below w.heap.size w wr) (fun _ i _ => n - (intOf i).toNat)
  case atStart => exact ⟨0, 0, Nat.zero_le _, rfl, rfl, by omega, by omega, rfl, Below.refl _ _⟩
  case round =>
    obtain ⟨k, x, hk, rfl, rfl, hx0, hx1, hs, hb⟩ := hrel
    by_cases hlt : k < n
    · obtain ⟨r, hrk⟩ : ∃ r, l[k]? = some r := ⟨_, List.getElem?_eq_getElem (by have := HL.out; omega)⟩
      obtain ⟨ad, rfl, hab, hra⟩ := (hr.below hb).range hrk hlt
      obtain ⟨ra, rb, rc, rd⟩ := r
      have HRA : Hid (∀ j v, [Value.int .i64 ra, .int .i64 rb, .int .i64 rc, .int .i64 rd][j]? = some v → wr.cell? ((ad.add (k * 4)).add j) = some v) := hra
      clear hra
      refine code_hide (fun Q0 HQ0 => ?_)
      go_upto_region 6 with (refine wpList_load_at rfl 31 _ rfl _ rfl [Value.int .i64 ra, .int .i64 rb, .int .i64 rc, .int .i64 rd] _ HRA.out Try.underlying31 rfl (by kernel_rfl) ?_)
      have HRK := Lib.hid hrk
      have HS := Lib.hid hs
      have HB : Hid (Below w.heap.size w (wr.alloc (.cells #[.int .i64 ra, .int .i64 rb, .int .i64 rc, .int .i64 rd] 31))) := hb.alloc hb.size _
      clear hrk hs
      by_cases h1 : ra = x
      · subst h1
        by_cases h2 : rb < ra
        · go_wp2_with (refine wpList_unguard rfl ?_)
          refine hide_out HQ0 ?_
          go_ret
          exact ⟨by rw [step_bad HRK.out HS.out (fun h => by have := h.2.1; simp only at this; omega)] <;> rfl, HB.out⟩
        have h2d : decide (rb < ra) = false := by simpa using h2
        by_cases h3 : 4294967295 < rb
        · go_wp2_with (refine wpList_unguard rfl ?_)
          refine hide_out HQ0 ?_
          go_ret
          exact ⟨by rw [step_bad HRK.out HS.out (fun h => by have := h.2.2.1; simp only at this; omega)] <;> rfl, HB.out⟩
        have h3d : decide (4294967295 < rb) = false := by simpa using h3
        by_cases h4 : rc < 1
        · go_wp2_with (refine wpList_unguard rfl ?_)
          refine hide_out HQ0 ?_
          go_ret
          exact ⟨by rw [step_bad HRK.out HS.out (fun h => by have := h.2.2.2; simp [ownedL] at this; omega)] <;> rfl, HB.out⟩
        have h4d : decide (rc < 1) = false := by simpa using h4
        by_cases h5 : 5 < rc
        · go_wp2_with (refine wpList_unguard rfl ?_)
          refine hide_out HQ0 ?_
          go_ret
          exact ⟨by rw [step_bad HRK.out HS.out (fun h => by have := h.2.2.2; simp [ownedL] at this; omega)] <;> rfl, HB.out⟩
        have h5d : decide (5 < rc) = false := by simpa using h5
        by_cases h6 : rd < 1
        · go_wp2_with (refine wpList_unguard rfl ?_)
          refine hide_out HQ0 ?_
          go_ret
          exact ⟨by rw [step_bad HRK.out HS.out (fun h => by have := h.2.2.2; simp [ownedL] at this; omega)] <;> rfl, HB.out⟩
        have h6d : decide (rd < 1) = false := by simpa using h6
        by_cases h7 : 1099511627776 < rd
        · go_wp2_with (refine wpList_unguard rfl ?_)
          refine hide_out HQ0 ?_
          go_ret
          exact ⟨by rw [step_bad HRK.out HS.out (fun h => by have := h.2.2.2; simp [ownedL] at this; omega)] <;> rfl, HB.out⟩
        have h7d : decide (1099511627776 < rd) = false := by simpa using h7
        go_wp2_with (refine wpList_unguard rfl ?_)
        refine hide_out HQ0 ?_
        go_roundw
        case rel => exact ⟨k + 1, rb + 1, by omega, by go_num, rfl, by omega, by omega, step_ok HRK.out HS.out ⟨rfl, by simp only; omega, by simp only; omega, by simp [ownedL]; omega⟩, HB.out⟩
        case measure => simp [intOf]; omega
      · have h1b : (ra == x) = false := by simpa using h1
        go_wp2_with (refine wpList_unguard rfl ?_)
        refine hide_out HQ0 ?_
        go_ret
        exact ⟨by rw [step_bad HRK.out HS.out (fun h => h1 h.1)] <;> rfl, HB.out⟩
    · obtain rfl : n = k := by omega
      have HE := Lib.hid (step_end hs HL.out)
      clear hs
      refine code_hide (fun Q0 HQ0 => ?_)
      by_cases h2 : n ≤ 64
      · have h2i : (n : Int) ≤ 64 := by omega
        by_cases h1 : x = 4294967296
        · subst h1
          go_wp2_with (refine wpList_unguard rfl ?_)
          refine hide_out HQ0 ?_
          go_wp2_with (refine wpList_unguard rfl ?_)
          go_ret
          exact ⟨by rw [HE.out]; simp [h2], hb⟩
        · have h1b : (x == 4294967296) = false := by simpa using h1
          go_wp2_with (refine wpList_unguard rfl ?_)
          refine hide_out HQ0 ?_
          go_wp2_with (refine wpList_unguard rfl ?_)
          go_ret
          exact ⟨by rw [HE.out]; simp [h1b], hb⟩
      · have h2i : (64 : Int) < n := by omega
        go_wp2
        refine hide_out HQ0 ?_
        go_wp2_with (refine wpList_unguard rfl ?_)
        go_ret
        exact ⟨by rw [HE.out]; simp [h2] <;> omega, hb⟩
end Go.Proofs.Ytbgnmkjjfaepiaa
