import Derived.Test.YtlgkgmnnmlhaeaaNetD
namespace Go.Proofs.Ytlgkgmnnmlhaeaa
open Go.RowKit
set_option linter.unusedVariables false

/-! ### A net that is none -/
set_option maxRecDepth 100000 in
theorem may_nil (w : World) (f t : Int) (Ab : Option Addr) (nb cb : Nat) : Calls Try.prog 25 #[.pointer none, .agg #[.int .i64 f, .int .i64 t, .slice Ab nb cb]] w fun e w' => e = .returned (.bool false) ∧ Below w.heap.size w w' := by
  go_enter Try.func25, Try.ntmps25
  go_wp2_with (refine wpList_unguard rfl ?_)
  go_ret
  exact ⟨rfl, (Below.refl _ _).alloc (Nat.le_refl _) _⟩
set_option maxRecDepth 100000 in
set_option maxHeartbeats 4000000 in
theorem send_nil (w : World) (X c : Nat) (f t : Int) (Ab : Option Addr) (nb cb : Nat) (hr : w.rangeAt X 0 [.int .i64 f, .int .i64 t, .slice Ab nb cb]) (hX : X < w.heap.size) :
    Calls Try.prog 9 #[.pointer none, .slice (some ⟨X, 0, none⟩) 1 c] w fun e w' => e = .returned (.int .i64 0) ∧ Below w.heap.size w w' := by
  have HR := Lib.hid hr
  clear hr
  go_enter Try.func9, Try.ntmps9
  go_wp2
  go_loopw [4, 9] (fun s k wr => ∃ j : Nat, j ≤ 1 ∧ s = .int .i64 0 ∧ k = .int .i64 j ∧ Hid (Below w.heap.size w wr)) (fun _ k _ => 1 - (intOf k).toNat)
  case atStart => exact ⟨0, Nat.zero_le _, rfl, rfl, Lib.hid (Below.refl _ _)⟩
  case round =>
    obtain ⟨j, hj, rfl, rfl, HB⟩ := hrel
    by_cases hlt : j < 1
    · obtain rfl : j = 0 := by omega
      have HRX : Hid (wr.rangeAt X 0 [.int .i64 f, .int .i64 t, .slice Ab nb cb]) := Lib.hid (range_below_at HR.out HB.out hX)
      go_upto_region 4 with (refine wpList_load_mid rfl 31 _ rfl X 0 rfl [.int .i64 f, .int .i64 t, .slice Ab nb cb] _ HRX.out Try.underlying31 rfl (by kernel_rfl) ?_)
      have HX : Hid (Below wr.heap.size wr (wr.alloc (.cells #[.int .i64 f, .int .i64 t, .slice Ab nb cb] 31)) ∧ (wr.alloc (.cells #[.int .i64 f, .int .i64 t, .slice Ab nb cb] 31)).rangeAt wr.heap.size 0 [.int .i64 f, .int .i64 t, .slice Ab nb cb]) := Lib.hid
        ⟨(Below.refl _ _).alloc (Nat.le_refl _) _, range_new wr [.int .i64 f, .int .i64 t, .slice Ab nb cb] _⟩
      have HSZ := Lib.hid HB.out.size
      have HX2 : Hid (Below w.heap.size w (wr.alloc (.cells #[.int .i64 f, .int .i64 t, .slice Ab nb cb] 31))) := Lib.hid (HB.out.trans (HX.out.1.mono HSZ.out))
      generalize (wr.alloc (.cells #[.int .i64 f, .int .i64 t, .slice Ab nb cb] 31)) = W1 at *
      generalize wr.heap.size = b6 at *
      go_wp2_with (first
        | (refine wpList_load_mid rfl 31 _ rfl b6 0 rfl [.int .i64 f, .int .i64 t, .slice Ab nb cb] _ HX.out.2 Try.underlying31 rfl (by kernel_rfl) ?_)
        | (go_at_call 25; refine (may_nil _ _ _ _ _ _).mono ?_; rintro e w2 ⟨rfl, hb2⟩))
      go_roundw
      case rel => exact ⟨1, Nat.le_refl _, rfl, rfl, Lib.hid (HX2.out.trans (hb2.mono HX2.out.size))⟩
      case measure => simp [intOf]
    · obtain rfl : j = 1 := by omega
      go_wp2
      go_ret
      exact ⟨rfl, HB.out⟩
def RetNone (w : World) (e : Ending) (w' : World) : Prop := e = .returned (.tuple #[.agg #[.int .i64 0, .int .i64 0, .slice none 0 0], .bool false]) ∧ Below w.heap.size w w'
theorem HZ3 (w : World) : (w.alloc (.cells #[.int .i64 0, .int .i64 0, .slice none 0 0] 31)).there w.heap.size 0 3 := there_new w [.int .i64 0, .int .i64 0, .slice none 0 0] 31
set_option maxRecDepth 100000 in
set_option maxHeartbeats 4000000 in
theorem peek_nil (w : World) : Calls Try.prog 16 #[.pointer none, .int .i64 0] w (RetNone w) := by
  go_enter Try.func16, Try.ntmps16
  go_wp2_with (first
    | (refine wpList_unguard rfl ?_)
    | (go_at_call 12; refine (len_nil _).mono ?_; rintro e w' ⟨rfl, rfl⟩)
    | (refine wpList_store_mid rfl 31 _ _ rfl w.heap.size 0 [.int .i64 0, .int .i64 0, .slice none 0 0].toArray rfl rfl (HZ3 w) (by kernel_rfl) (all_oneCell_toArray (pk3_one _ _ _ _ _)) ?_))
  refine ret_cell 4 5 31 rfl w.heap.size [.int .i64 0, .int .i64 0, .slice none 0 0] _ rfl (World.rangeAt_setCells_same _ _ _ _ (HZ3 w)) Try.underlying31 rfl (by kernel_rfl) rfl ?_
  exact ⟨rfl, Below.setCells _ (Nat.le_refl _) _ _ ((Below.refl _ _).alloc (Nat.le_refl _) _)⟩
set_option maxRecDepth 100000 in
set_option maxHeartbeats 4000000 in
theorem deliver_nil (w : World) : Calls Try.prog 11 #[.pointer none, .int .i64 0] w (RetNone w) := by
  go_enter Try.func11, Try.ntmps11
  go_upto_region 4 with (go_at_call 16; refine (peek_nil _).mono ?_; rintro e w2 ⟨rfl, hb2⟩)
  have hsz : w.heap.size + 1 ≤ w2.heap.size := by have := hb2.size; rw [alloc_size] at this; omega
  have HT : Hid ((w2.alloc (.cells #[.int .i64 0, .int .i64 0, .slice none 0 0] 31)).there w.heap.size 0 3) := Lib.hid (World.there_alloc (there_below (HZ3 w) hb2 (by rw [alloc_size]; omega)) _)
  have HR : Hid ((w2.alloc (.cells #[.int .i64 0, .int .i64 0, .slice none 0 0] 31)).rangeAt w2.heap.size 0 [.int .i64 0, .int .i64 0, .slice none 0 0]) := Lib.hid (range_new w2 [.int .i64 0, .int .i64 0, .slice none 0 0] _)
  have HB : Hid (Below w.heap.size w (w2.alloc (.cells #[.int .i64 0, .int .i64 0, .slice none 0 0] 31))) := Lib.hid ((((Below.refl _ _).alloc (Nat.le_refl _) _).trans (hb2.mono (by rw [alloc_size]; omega))).alloc (by omega) _)
  clear hb2
  generalize (w2.alloc (.cells #[.int .i64 0, .int .i64 0, .slice none 0 0] 31)) = W3 at *
  generalize w2.heap.size = b6 at *
  go_wp2_with (first
    | (refine wpList_load_mid rfl 31 _ rfl b6 0 rfl [.int .i64 0, .int .i64 0, .slice none 0 0] _ HR.out Try.underlying31 rfl (by kernel_rfl) ?_)
    | (refine wpList_store_mid rfl 31 _ _ rfl w.heap.size 0 [.int .i64 0, .int .i64 0, .slice none 0 0].toArray rfl rfl HT.out (by kernel_rfl) (all_oneCell_toArray (pk3_one _ _ _ _ _)) ?_))
  refine ret_cell 4 5 31 rfl w.heap.size [.int .i64 0, .int .i64 0, .slice none 0 0] _ rfl (World.rangeAt_setCells_same _ _ _ _ HT.out) Try.underlying31 rfl (by kernel_rfl) rfl ?_
  exact ⟨rfl, Below.setCells _ (Nat.le_refl _) _ _ HB.out⟩
set_option maxRecDepth 100000 in
theorem drop_nil (w : World) : Calls Try.prog 20 #[.pointer none, .int .i64 0] w (RetB w false) := by
  go_enter Try.func20, Try.ntmps20
  go_wp2_with (go_at_call 11; refine (deliver_nil _).mono ?_; rintro e w2 ⟨rfl, hb2⟩)
  go_ret
  exact ⟨rfl, hb2.alloc hb2.size _⟩
set_option maxRecDepth 100000 in
theorem twice_nil (w : World) : Calls Try.prog 14 #[.pointer none, .int .i64 0] w (RetB w false) := by
  go_enter Try.func14, Try.ntmps14
  go_wp2_with (first
    | (refine wpList_unguard rfl ?_)
    | (go_at_call 16; refine (peek_nil _).mono ?_; rintro e w2 ⟨rfl, hb2⟩))
  go_ret
  exact ⟨rfl, hb2.alloc hb2.size _⟩
set_option maxRecDepth 100000 in
theorem clear_nil (w : World) (d : Int) : Calls Try.prog 15 #[.pointer none, .int .i64 d] w (RetI w 0) := by
  go_enter Try.func15, Try.ntmps15
  go_wp2_with (go_at_call 12; refine (len_nil _).mono ?_; rintro e w' ⟨rfl, rfl⟩)
  go_ret
  exact ⟨rfl, (Below.refl _ _).alloc (Nat.le_refl _) _⟩
end Go.Proofs.Ytlgkgmnnmlhaeaa
