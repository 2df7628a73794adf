import Derived.Test.YtbgnmkjjfaepiaaRingSplit
import Derived.Test.YtbgnmkjjfaepiaaRingAwake
namespace Go.Proofs.Ytbgnmkjjfaepiaa
open Go.RowKit
set_option linter.unusedVariables false

theorem sound_wf {l : List Rg} (h : soundL l = true) : ∀ r ∈ l, r.wf := fun r hr => by
  obtain ⟨h1, h2, h3, h4, h5⟩ := sg_mem (sound_parts h).1 r hr
  simp [ownedL] at h5
  unfold Rg.wf
  omega

def fullL (m : Nat) : List Rg := (List.range m).map (fun j => ⟨(j : Int) * 1000, ((j : Int) + 1) * 1000 - 1, 1, (j : Int) + 2⟩) ++ [⟨(m : Int) * 1000, 4294967295, 1, (m : Int) + 1⟩]
theorem fullL_length (m : Nat) : (fullL m).length = m + 1 := by simp [fullL]
theorem fullL_zero : newL 1 = fullL 0 ∧ newE 1 = 0 := by decide +kernel
theorem fullL_sound : ∀ m, m < 64 → soundL (fullL m) = true := by decide +kernel
theorem fullL_split : ∀ m, m < 63 → splitL (fullL m) (((m : Int) + 1) * 1000) = (fullL (m + 1), 0) := by decide +kernel
theorem fullL_full : ∀ m : Nat, m < 80 → 63 ≤ m → splitL (fullL 63) (((m : Int) + 1) * 1000) = ([], 2) := by decide +kernel

set_option maxRecDepth 100000 in
set_option maxHeartbeats 4000000 in
theorem ringFull_walk (w : World) (N : Int) (w0 : (Lit.int .i64 N).wf = true) : Calls Try.prog 6 #[.int .i64 N] w (RetTrue w) := by
  obtain ⟨hn0, hn1⟩ := wf_int w0
  clear w0
  by_cases h1 : N < 0
  · go_enter Try.func6, Try.ntmps6
    go_wp2_with (first
      | (refine wpList_unguard rfl ?_)
      | (go_at_call 11; refine (awake_any _).mono ?_; rintro e w' ⟨rfl, hb⟩))
    go_ret
    exact ⟨rfl, hb⟩
  by_cases h2 : 80 < N
  · go_enter Try.func6, Try.ntmps6
    go_wp2_with (first
      | (refine wpList_unguard rfl ?_)
      | (go_at_call 11; refine (awake_any _).mono ?_; rintro e w' ⟨rfl, hb⟩))
    go_ret
    exact ⟨rfl, hb⟩
  obtain ⟨n, rfl⟩ : ∃ n : Nat, N = (n : Int) := ⟨N.toNat, by omega⟩
  have hn : n ≤ 80 := by omega
  have d1 : decide ((n : Int) < 0) = false := by simp
  have d2 : decide ((80 : Int) < (n : Int)) = false := by simp; omega
  have HNEW := Lib.hid (new_any w 1 (by omega) (by omega))
  rw [fullL_zero.1, fullL_zero.2] at HNEW
  have HNEW' : Hid (Calls Try.prog 12 #[.int .i64 1] w fun e w' => ∃ A c, e = .returned (.tuple #[.slice A 1 c, .int .i64 0]) ∧ 1 ≤ c ∧ c ≤ maxLen ∧ Hid (Reads w' w'.heap.size 4 A 1 (rowCells (fullL 0))) ∧ Below w.heap.size w w') := Lib.hid (HNEW.out.mono fun e w' h => by
    obtain ⟨A, c, h1, h2, h3, h4, h5⟩ := h
    exact ⟨A, c, h1, h2, h3, Lib.hid h4, h5⟩)
  have HSP : Hid (∀ (W : World) (A : Option Addr) (c m : Nat), m < 63 → m + 1 ≤ c → c ≤ maxLen → Reads W W.heap.size 4 A (m + 1) (rowCells (fullL m)) →
      Calls Try.prog 25 #[.slice A (m + 1) c, .int .i64 (((m : Int) + 1) * 1000)] W fun e w' => ∃ A' c', e = .returned (.tuple #[.slice A' (m + 2) c', .int .i64 0]) ∧ m + 2 ≤ c' ∧ c' ≤ maxLen ∧ Hid (Reads w' w'.heap.size 4 A' (m + 2) (rowCells (fullL (m + 1)))) ∧ Below W.heap.size W w') := Lib.hid fun W A c m hm g1 g2 g3 => by
    have := split_any W A (m + 1) c (fullL m) (((m : Int) + 1) * 1000) g3 (sound_wf (fullL_sound m (by omega))) (fullL_length m) g1 g2 (by omega) (by omega)
    rw [fullL_split m hm] at this
    refine this.mono fun e w' h => ?_
    obtain ⟨A', c', h1, h2, h3, h4, h5⟩ := h
    have hl := fullL_length (m + 1)
    simp only at h1 h2 h4
    rw [hl] at h1 h2 h4
    exact ⟨A', c', h1, h2, h3, Lib.hid h4, h5⟩
  have HSF : Hid (∀ (W : World) (A : Option Addr) (c m : Nat), m < 80 → 63 ≤ m → 64 ≤ c → c ≤ maxLen → Reads W W.heap.size 4 A 64 (rowCells (fullL 63)) →
      Calls Try.prog 25 #[.slice A 64 c, .int .i64 (((m : Int) + 1) * 1000)] W fun e w' => ∃ A' c', e = .returned (.tuple #[.slice A' 0 c', .int .i64 2]) ∧ Below W.heap.size W w') := Lib.hid fun W A c m hm hm2 g1 g2 g3 => by
    have := split_any W A 64 c (fullL 63) (((m : Int) + 1) * 1000) g3 (sound_wf (fullL_sound 63 (by omega))) (fullL_length 63) g1 g2 (by omega) (by omega)
    rw [fullL_full m hm hm2] at this
    refine this.mono fun e w' h => ?_
    obtain ⟨A', c', h1, h2, h3, h4, h5⟩ := h
    exact ⟨A', c', h1, h5⟩
  have HSO : Hid (∀ (W : World) (A : Option Addr) (c m : Nat), m < 64 → m + 1 ≤ maxLen → Reads W W.heap.size 4 A (m + 1) (rowCells (fullL m)) → Calls Try.prog 19 #[.slice A (m + 1) c] W (RetB W true)) := Lib.hid fun W A c m hm g1 g3 => by
    have := sound_any W A (m + 1) c (fullL m) g3 (sound_wf (fullL_sound m hm)) (fullL_length m) g1
    rwa [fullL_sound m hm] at this
  clear HNEW h1 h2
  go_enter Try.func6, Try.ntmps6
  go_wp2_with (first
    | (refine wpList_unguard rfl ?_)
    | (go_at_call 12; refine HNEW'.out.mono ?_; rintro e w1 ⟨A1, c1, rfl, hc1, hm1, hr1, hb1⟩))
  go_loopw [3, 5] (fun v i wr => ∃ (k m : Nat) (A : Option Addr) (c : Nat), k ≤ n ∧ i = .int .i64 k ∧ m = min k 63 ∧ v = .slice A (m + 1) c ∧ m + 1 ≤ c ∧ c ≤ maxLen ∧ Hid (Reads wr wr.heap.size 4 A (m + 1) (rowCells (fullL m))) ∧ Below w.heap.size w wr) (fun _ i _ => n - (intOf i).toNat)
  case atStart => exact ⟨0, 0, A1, c1, Nat.zero_le _, rfl, by omega, rfl, hc1, hm1, hr1, hb1⟩
  case round =>
    obtain ⟨k, m, A, c, hk, rfl, hm, rfl, hc, hcm, hrd, hb⟩ := hrel
    have HB := Lib.hid hb
    have HCM := Lib.hid hcm
    clear hb hcm
    refine code_hide (fun Q0 HQ0 => ?_)
    by_cases hlt : k < n
    · by_cases h63 : k < 63
      · obtain rfl : m = k := by omega
        clear hm
        have ne1 : (((m : Int) + 1) == 64) = false := by simp; omega
        have ne2 : (((m + 1 : Nat) : Int) == 64) = false := by simp; omega
        go_wp2_with (first
          | (refine wpList_unguard rfl ?_)
          | (go_at_call 25; refine (HSP.out _ _ _ _ h63 hc HCM.out hrd.out).mono ?_; rintro e w2 ⟨A2, c2, rfl, hc2, hm2, hr2, hb2⟩))
        refine hide_out HQ0 ?_
        go_step
        go_roundw
        case rel => exact ⟨m + 1, m + 1, A2, c2, by omega, by go_num, by omega, rfl, hc2, hm2, hr2, HB.out.trans (hb2.mono HB.out.size)⟩
        case measure => simp [intOf]; omega
      · obtain rfl : m = 63 := by omega
        clear hm
        go_wp2_with (first
          | (refine wpList_unguard rfl ?_)
          | (go_at_call 25; refine (HSF.out _ _ _ _ (by omega) (by omega) hc HCM.out hrd.out).mono ?_; rintro e w2 ⟨A2, c2, rfl, hb2⟩))
        refine hide_out HQ0 ?_
        go_step
        go_roundw
        case rel => exact ⟨k + 1, 63, A, c, by omega, by go_num, by omega, rfl, hc, HCM.out, Lib.hid ((hrd.out.below hb2).more hb2.size), HB.out.trans (hb2.mono HB.out.size)⟩
        case measure => simp [intOf]; omega
    · obtain rfl : n = k := by omega
      by_cases h63 : n ≤ 63
      · obtain rfl : m = n := by omega
        clear hm
        have mm : min ((m : Int) + 1) 64 = (m : Int) + 1 := by omega
        go_wp2
        refine hide_out HQ0 ?_
        go_wp2_with (first
          | (refine wpList_unguard rfl ?_)
          | (go_at_call 19; refine (HSO.out _ _ _ _ (by omega) (by unfold maxLen; omega) hrd.out).mono ?_; rintro e w2 ⟨rfl, hb2⟩)
          | (go_at_call 11; refine (awake_any _).mono ?_; rintro e w' ⟨rfl, hb3⟩))
        go_ret
        exact RetTrue.from (HB.out.trans (hb2.mono HB.out.size)) ⟨rfl, hb3⟩
      · obtain rfl : m = 63 := by omega
        clear hm
        have mm : min ((n : Int) + 1) 64 = 64 := by omega
        go_wp2
        refine hide_out HQ0 ?_
        go_wp2_with (first
          | (refine wpList_unguard rfl ?_)
          | (go_at_call 19; refine (HSO.out _ _ _ 63 (by omega) (by unfold maxLen; omega) hrd.out).mono ?_; rintro e w2 ⟨rfl, hb2⟩)
          | (go_at_call 11; refine (awake_any _).mono ?_; rintro e w' ⟨rfl, hb3⟩))
        go_ret
        exact RetTrue.from (HB.out.trans (hb2.mono HB.out.size)) ⟨rfl, hb3⟩
end Go.Proofs.Ytbgnmkjjfaepiaa
