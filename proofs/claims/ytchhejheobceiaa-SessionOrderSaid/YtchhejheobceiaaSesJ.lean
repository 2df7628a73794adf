/- The reference's eye: Num and Byte. No condition. -/
import Derived.Test.YtchhejheobceiaaSesI
namespace Go.Proofs.Ytchhejheobceiaa
open Go.RowKit
set_option linter.unusedVariables false

structure EyeAt (w : World) (g : Nat) (A : Option Addr) (n c : Nat) (l : List UInt8) (i : Nat) (bad : Bool) : Prop where
  cell : w.heap[g]? = some (.cells #[.slice A n c, .int .i64 i, .bool bad] 79 (0, 0))
  rd : Reads w g 1 A n (bc l)
  le : i ≤ n
  nc : n ≤ c
  cm : c ≤ maxLen
section
variable {w w1 : World} {g n c i : Nat} {A : Option Addr} {l : List UInt8} {bad : Bool}
theorem EyeAt.cells_ (h : EyeAt w g A n c l i bad) : w.cell? ⟨g, 0, none⟩ = some (.slice A n c) ∧ w.cell? ⟨g, 1, none⟩ = some (.int .i64 i) ∧ w.cell? ⟨g, 2, none⟩ = some (.bool bad) :=
  ⟨by rw [cell_of_row w g 0 _ _ (0, 0) h.cell]; rfl, by rw [cell_of_row w g 1 _ _ (0, 0) h.cell]; rfl, by rw [cell_of_row w g 2 _ _ (0, 0) h.cell]; rfl⟩
theorem EyeAt.free (h : EyeAt w g A n c l i bad) (j : Nat) : w.frozen? ⟨g, j, none⟩ = false := by simp [World.frozen?, h.cell]
theorem EyeAt.lt (h : EyeAt w g A n c l i bad) : g < w.heap.size := (Array.getElem?_eq_some_iff.1 h.cell).1
theorem EyeAt.len (h : EyeAt w g A n c l i bad) : l.length = n := by have := h.rd.1; rw [bc_length] at this; omega
theorem EyeAt.setI (h : EyeAt w g A n c l i bad) (k : Nat) (hk : k ≤ n) : EyeAt (w.setCell ⟨g, 1, none⟩ (.int .i64 k)) g A n c l k bad :=
  ⟨heap_setCell_at h.cell 1 _, h.rd.setCell (Nat.le_refl _) _, hk, h.nc, h.cm⟩
theorem EyeAt.setBad (h : EyeAt w g A n c l i bad) : EyeAt (w.setCell ⟨g, 2, none⟩ (.bool true)) g A n c l i true :=
  ⟨heap_setCell_at h.cell 2 _, h.rd.setCell (Nat.le_refl _) _, h.le, h.nc, h.cm⟩
theorem EyeAt.drewN (h : EyeAt w g A n c l i bad) (k : Nat) : EyeAt (w.drewN k) g A n c l i bad := ⟨h.cell, h.rd.drewN k, h.le, h.nc, h.cm⟩
end
/-- A number read at place i: it, the place behind it, whether none was there. -/
def eyeN (l : List UInt8) (i : Nat) (bad : Bool) : Nat × Nat × Bool := if bad then (0, i, true) else match numL (l.drop i) with
  | none => (0, i, true)
  | some (v, _) => (v, i + (unv (l.drop i)).2, false)
def eyeB (l : List UInt8) (i : Nat) (bad : Bool) : Nat × Nat × Bool := if bad then (0, i, true) else match l[i]? with
  | none => (0, i, true)
  | some x => (x.toNat, i + 1, false)
def EyeNow (w : World) (g : Nat) (A : Option Addr) (n c : Nat) (l : List UInt8) (r : Nat × Nat × Bool) (e : Ending) (w' : World) : Prop :=
  e = .returned (.int .i64 r.1) ∧ EyeAt w' g A n c l r.2.1 r.2.2 ∧ Kept (fun k => k = g) w w'
theorem kept_one (w : World) (g o : Nat) (u : Value) : Kept (fun k => k = g) w (w.setCell ⟨g, o, none⟩ u) := (Kept.refl (fun k => k = g) w).setCell (a := ⟨g, o, none⟩) (fun _ => rfl) _
section
variable (w : World) (g n c i : Nat) (A : Option Addr) (l : List UInt8) (bad : Bool) (h : EyeAt w g A n c l i bad)
include h
set_option maxRecDepth 100000 in
set_option maxHeartbeats 4000000 in
theorem eye_num : Calls Try.prog 36 #[.pointer (some ⟨g, 0, none⟩), .int .i64 1099511627776] w (EyeNow w g A n c l (eyeN l i bad)) := by
  have HE := Lib.hid h
  obtain ⟨c0, c1, c2⟩ := h.cells_
  have f1 := h.free 1
  have f2 := h.free 2
  have hi := h.le
  have hnc := h.nc
  have hcm : c ≤ 9223372036854775807 := by have := h.cm; unfold maxLen at this; exact this
  have HCUT := Lib.hid (h.rd.cut hi hnc)
  have HLN := Lib.hid h.len
  cases bad
  · obtain ⟨v, k, HU⟩ : ∃ v k, Hid (unv (l.drop i) = (v, k)) := ⟨_, _, Lib.hid rfl⟩
    have HUN : Hid (∀ m, Calls Try.prog 45 #[.slice (if c = i then A else A.map (·.add i)) (n - i) (c - i)] (w.drewN m) fun e w' => e = .returned (.tuple #[.int .u64 v, .int .i64 k]) ∧ w.drewN m = w') := Lib.hid fun m =>
      (refUnvar_any _ (n - i) (c - i) (l.drop i) (w.drewN m) (by have := HCUT.out.drewN m; rw [Nat.mul_one] at this; rw [show bc (l.drop i) = (bc l).drop i from List.map_drop]; exact this) (by unfold maxLen; omega)).mono fun e w' h => h.eq HU.out
    have hk : k ≤ n - i := by have := unv_lt (l.drop i); rw [HU.out, List.length_drop, HLN.out] at this; exact this
    have hv : v < 18446744073709551616 := by have := unv_val (l.drop i); rw [HU.out] at this; exact this
    have HNO : Hid (k = 0 ∨ farN < v → eyeN l i false = (0, i, true)) := Lib.hid (fun hh => by unfold eyeN numL; rw [HU.out, if_pos hh]; rfl)
    have HYES : Hid (¬ k = 0 → ¬ farN < v → eyeN l i false = (v, i + k, false)) := Lib.hid (fun h1 h2 => by unfold eyeN numL; rw [HU.out, if_neg (show ¬ ((v, k).2 = 0 ∨ farN < (v, k).1) by simp only; omega)]; rfl)
    have hways : ((k : Int) == 0) = true ∨ (((k : Int) == 0) = false ∧ ((1099511627776 : Int) < (v : Int) ∨ (decide ((1099511627776 : Int) < (v : Int)) = false))) := by
      by_cases h1 : k = 0
      · left; simp [h1]
      · right
        refine ⟨by simp; omega, ?_⟩
        by_cases h2 : 1099511627776 < v
        · left; omega
        · right; simp; omega
    clear h
    obtain ⟨A1, HA1⟩ : ∃ A1, Hid ((if c = i then A else A.map (·.add i)) = A1) := ⟨_, Lib.hid rfl⟩
    go_enter Try.func36, Try.ntmps36
    go_upto_region 3 with fail
    refine wp_region_quiet_lit (by kernel_rfl) (by kernel_rfl) ?_
    repeat (go_big_quiet_step ((go_at_call 45; first | exact quiet_left (HUN.out _) | exact quiet_add_left (HUN.out _))))
    refine wpQuiet_nil ?_
    rintro _ ⟨nq, rfl⟩
    have HED : Hid (EyeAt (w.drewN nq) g A n c l i false) := Lib.hid (HE.out.drewN nq)
    have HKD : Hid (Kept (fun k => k = g) w (w.drewN nq)) := Lib.hid ((Kept.refl _ _).drewN nq)
    rcases hways with e3 | ⟨e3, e4 | e4⟩
    · have HR := Lib.hid (HNO.out (.inl (by simpa using e3)))
      go_wp2_with (refine wpList_unguard rfl ?_)
      all_goals go_ret
      all_goals rw [HR.out]
      all_goals first | exact ⟨rfl, HED.out.setBad, HKD.out.trans (kept_one _ _ _ _) (fun _ _ e => e)⟩ | (have hci : c = i := (by assumption); subst hci; exact ⟨rfl, HED.out.setBad, HKD.out.trans (kept_one _ _ _ _) (fun _ _ e => e)⟩)
    · have HR := Lib.hid (HNO.out (.inr (by unfold farN; omega)))
      go_wp2_with (refine wpList_unguard rfl ?_)
      all_goals go_ret
      all_goals rw [HR.out]
      all_goals first | exact ⟨rfl, HED.out.setBad, HKD.out.trans (kept_one _ _ _ _) (fun _ _ e => e)⟩ | (have hci : c = i := (by assumption); subst hci; exact ⟨rfl, HED.out.setBad, HKD.out.trans (kept_one _ _ _ _) (fun _ _ e => e)⟩)
    · have HR := Lib.hid (HYES.out (by simpa using e3) (by unfold farN; simp at e4; omega))
      have w1 : IntKind.i64.wrap ((i : Int) + (k : Int)) = (i : Int) + (k : Int) := IntWalk.i64_in _ (by omega)
      have w2 : IntKind.i64.wrap (v : Int) = (v : Int) := IntWalk.i64_in _ (by simp at e4; omega)
      go_wp2_with (refine wpList_unguard rfl ?_)
      all_goals go_ret
      all_goals rw [HR.out]
      all_goals
        have hs := HED.out.setI (i + k) (by omega)
        rw [show ((i + k : Nat) : Int) = (i : Int) + (k : Int) by omega] at hs
        first | exact ⟨rfl, hs, HKD.out.trans (kept_one _ _ _ _) (fun _ _ e => e)⟩ | (have hci : c = i := (by assumption); subst hci; exact ⟨rfl, hs, HKD.out.trans (kept_one _ _ _ _) (fun _ _ e => e)⟩)
  · clear h
    go_enter Try.func36, Try.ntmps36
    go_wp2
    go_ret
    exact ⟨rfl, HE.out, Kept.refl _ _⟩
set_option maxRecDepth 100000 in
set_option maxHeartbeats 4000000 in
theorem eye_byte : Calls Try.prog 37 #[.pointer (some ⟨g, 0, none⟩)] w (EyeNow w g A n c l (eyeB l i bad)) := by
  have HE := Lib.hid h
  obtain ⟨c0, c1, c2⟩ := h.cells_
  have f1 := h.free 1
  have f2 := h.free 2
  have hi := h.le
  have hnc := h.nc
  have hcm : c ≤ 9223372036854775807 := by have := h.cm; unfold maxLen at this; exact this
  have HLN := Lib.hid h.len
  cases bad
  · by_cases hlt : i < n
    · obtain ⟨ad, x, rfl, hx, hca⟩ := h.rd.byte hlt
      have HX := Lib.hid hx
      have hxl := x.toNat_lt
      have HR : Hid (eyeB l i false = (x.toNat, i + 1, false)) := Lib.hid (by unfold eyeB; rw [HX.out]; rfl)
      have hadg : ad.block < g := by
        obtain ⟨ad', e, hb, _⟩ := h.rd.2 (by omega)
        injection e with e
        rw [e]; exact hb
      have e1 : decide ((n : Int) ≤ (i : Int)) = false := by simp; omega
      have w1 : IntKind.i64.wrap ((i : Int) + 1) = (i : Int) + 1 := IntWalk.i64_in _ (by omega)
      clear h hx
      go_enter Try.func37, Try.ntmps37
      go_upto_region 1 with fail
      refine wp_region_quiet_lit (by kernel_rfl) (by kernel_rfl) ?_
      repeat (go_big_quiet_step (fail))
      refine wpQuiet_nil ?_
      rintro _ ⟨nq, rfl⟩
      go_upto_region 5 with fail
      have HW : Hid (EyeAt ((w.drewN nq).setCell ⟨g, 1, none⟩ (.int .i64 ((i : Int) + 1))) g (some ad) n c l (i + 1) false ∧ Kept (fun k => k = g) w ((w.drewN nq).setCell ⟨g, 1, none⟩ (.int .i64 ((i : Int) + 1))) ∧ ((w.drewN nq).setCell ⟨g, 1, none⟩ (.int .i64 ((i : Int) + 1))).cell? (ad.add i) = some (.int .u8 (x.toNat : Int))) := Lib.hid (by
        have hs := (HE.out.drewN nq).setI (i + 1) (by omega)
        refine ⟨by simpa using hs, ((Kept.refl _ _).drewN nq).trans (kept_one _ _ _ _) (fun _ _ e => e), ?_⟩
        obtain ⟨ad', b, e, hb, hc'⟩ := hs.rd.byte hlt
        injection e with e
        rw [HX.out] at hb
        injection hb with hb
        rw [e, hb]
        exact hc')
      generalize ((w.drewN nq).setCell ⟨g, 1, none⟩ (.int .i64 ((i : Int) + 1))) = W at *
      obtain ⟨d0, d1, d2⟩ := HW.out.1.cells_
      have d3 := HW.out.2.2
      have w2 : IntKind.i64.wrap (((i + 1 : Nat) : Int) - 1) = (i : Int) := by rw [show ((i + 1 : Nat) : Int) - 1 = i by omega]; exact IntWalk.i64_in _ (by omega)
      have w3 : IntKind.i64.wrap (i : Int) = (i : Int) := IntWalk.i64_in _ (by omega)
      have w4 : IntKind.i64.wrap (x.toNat : Int) = (x.toNat : Int) := IntWalk.i64_in _ (by omega)
      refine wp_region_quiet_lit (by kernel_rfl) (by kernel_rfl) ?_
      repeat (go_big_quiet_step (fail))
      refine wpQuiet_nil ?_
      rintro _ ⟨nq2, rfl⟩
      go_wp2
      go_ret
      rw [HR.out]
      exact ⟨rfl, HW.out.1.drewN nq2, HW.out.2.1.drewN nq2⟩
    · have HR : Hid (eyeB l i false = (0, i, true)) := Lib.hid (by unfold eyeB; rw [List.getElem?_eq_none (by rw [HLN.out]; omega)]; rfl)
      have e1 : (n : Int) ≤ (i : Int) := by omega
      clear h
      go_enter Try.func37, Try.ntmps37
      go_upto_region 1 with fail
      refine wp_region_quiet_lit (by kernel_rfl) (by kernel_rfl) ?_
      repeat (go_big_quiet_step (fail))
      refine wpQuiet_nil ?_
      rintro _ ⟨nq, rfl⟩
      go_wp2
      go_ret
      rw [HR.out]
      exact ⟨rfl, (HE.out.drewN nq).setBad, ((Kept.refl _ _).drewN nq).trans (kept_one _ _ _ _) (fun _ _ e => e)⟩
  · clear h
    go_enter Try.func37, Try.ntmps37
    go_upto_region 1 with fail
    refine wp_region_quiet_lit (by kernel_rfl) (by kernel_rfl) ?_
    repeat (go_big_quiet_step (fail))
    refine wpQuiet_nil ?_
    rintro _ ⟨nq, rfl⟩
    go_wp2
    go_ret
    exact ⟨rfl, (HE.out.drewN nq).setBad, ((Kept.refl _ _).drewN nq).trans (kept_one _ _ _ _) (fun _ _ e => e)⟩
end
end Go.Proofs.Ytchhejheobceiaa
