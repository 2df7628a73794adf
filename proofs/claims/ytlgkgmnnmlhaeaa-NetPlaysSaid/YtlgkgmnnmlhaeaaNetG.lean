import Derived.Test.YtlgkgmnnmlhaeaaNetE
namespace Go.Proofs.Ytlgkgmnnmlhaeaa
open Go.RowKit
set_option linter.unusedVariables false

/-! ### An index at which there is nothing -/
section
variable (B : Nat) (w : World) (a : Nat) (v : Value) (vs : List PkV) (ps : List Pk) (hN : NetAt B w a v vs ps) (hps : ps.length ≤ 200) (z : Int) (hz : z < 0 ∨ (ps.length : Int) ≤ z)
include hN hps hz
set_option maxRecDepth 100000 in
set_option maxHeartbeats 4000000 in
theorem peek_none : Calls Try.prog 16 #[.pointer (some ⟨a, 0, none⟩), .int .i64 z] w (RetNone w) := by
  obtain ⟨N, HNN⟩ : ∃ N, Hid (ps.length = N) := ⟨_, Lib.hid rfl⟩
  rw [HNN.out] at hz
  have hN200 : N ≤ 200 := by have := HNN.out; omega
  obtain ⟨A0, c0, hv0, _⟩ := Owns.form (Or.inl hN.row)
  rw [HNN.out] at hv0
  have HLE : Hid (∀ W, Below w.heap.size w W → Calls Try.prog 12 #[.pointer (some ⟨a, 0, none⟩)] W fun e w' => e = .returned (.int .i64 N) ∧ W = w') := Lib.hid fun W hb => len_any W a A0 N c0 (by simp [maxLen]; omega) (by rw [hb.cell hN.lt, cell_of_one hN.cell, hv0])
  clear hN hv0
  have hways : (z < 0) ∨ (decide (z < 0) = false ∧ (N : Int) ≤ z) := by
    rcases hz with h | h
    · exact .inl h
    · right; exact ⟨by simp; omega, h⟩
  clear hz
  rcases hways with h1 | ⟨h1, h2⟩
  all_goals
    go_enter Try.func16, Try.ntmps16
    go_wp2_with (first
      | (refine wpList_unguard rfl ?_)
      | (go_at_call 12; ((with_reducible refine (HLE.out _ ((Below.refl _ _).alloc (Nat.le_refl _) _)).mono ?_); rintro e w' ⟨rfl, rfl⟩))
      | (refine wpList_store_mid rfl 31 _ _ rfl w.heap.size 0 [.int .i64 0, .int .i64 0, .slice none 0 0].toArray rfl rfl (HZ3 w) (by kernel_rfl) (all_oneCell_toArray (pk3_one _ _ _ _ _)) ?_))
    refine ret_cell 4 5 31 rfl w.heap.size [.int .i64 0, .int .i64 0, .slice none 0 0] _ rfl (World.rangeAt_setCells_same _ _ _ _ (HZ3 w)) Try.underlying31 rfl (by kernel_rfl) rfl ?_
    exact ⟨rfl, Below.setCells _ (Nat.le_refl _) _ _ ((Below.refl _ _).alloc (Nat.le_refl _) _)⟩
set_option maxRecDepth 100000 in
set_option maxHeartbeats 4000000 in
theorem deliver_none : Calls Try.prog 11 #[.pointer (some ⟨a, 0, none⟩), .int .i64 z] w (RetNone w) := by
  have HP : Hid (∀ W, Below w.heap.size w W → Calls Try.prog 16 #[.pointer (some ⟨a, 0, none⟩), .int .i64 z] W (RetNone W)) := Lib.hid fun W hb => peek_none B W a v vs ps (hN.grow hb) hps z hz
  clear hN hz
  go_enter Try.func11, Try.ntmps11
  go_upto_region 4 with (go_at_call 16; refine (HP.out _ ((Below.refl _ _).alloc (Nat.le_refl _) _)).mono ?_; rintro e w2 ⟨rfl, hb2⟩)
  have hsz : w.heap.size + 1 ≤ w2.heap.size := by have := hb2.size; rw [alloc_size] at this; omega
  have HT : Hid ((w2.alloc (.cells #[.int .i64 0, .int .i64 0, .slice none 0 0] 31)).there w.heap.size 0 3) := Lib.hid (World.there_alloc (there_below (HZ3 w) hb2 (by rw [alloc_size]; omega)) _)
  have HR : Hid ((w2.alloc (.cells #[.int .i64 0, .int .i64 0, .slice none 0 0] 31)).rangeAt w2.heap.size 0 [.int .i64 0, .int .i64 0, .slice none 0 0]) := Lib.hid (range_new w2 [.int .i64 0, .int .i64 0, .slice none 0 0] _)
  have HB : Hid (Below w.heap.size w (w2.alloc (.cells #[.int .i64 0, .int .i64 0, .slice none 0 0] 31))) := Lib.hid ((((Below.refl _ _).alloc (Nat.le_refl _) _).trans (hb2.mono (by rw [alloc_size]; omega))).alloc (by omega) _)
  clear hb2
  generalize (w2.alloc (.cells #[.int .i64 0, .int .i64 0, .slice none 0 0] 31)) = W3 at *
  generalize w2.heap.size = b6 at *
  go_wp2_with (first
    | (refine wpList_load_mid rfl 31 _ rfl b6 0 rfl [.int .i64 0, .int .i64 0, .slice none 0 0] _ HR.out Try.underlying31 rfl (by kernel_rfl) ?_)
    | (refine wpList_store_mid rfl 31 _ _ rfl w.heap.size 0 [.int .i64 0, .int .i64 0, .slice none 0 0].toArray rfl rfl HT.out (by kernel_rfl) (all_oneCell_toArray (pk3_one _ _ _ _ _)) ?_))
  refine ret_cell 4 5 31 rfl w.heap.size [.int .i64 0, .int .i64 0, .slice none 0 0] _ rfl (World.rangeAt_setCells_same _ _ _ _ HT.out) Try.underlying31 rfl (by kernel_rfl) rfl ?_
  exact ⟨rfl, Below.setCells _ (Nat.le_refl _) _ _ HB.out⟩
set_option maxRecDepth 100000 in
theorem drop_none : Calls Try.prog 20 #[.pointer (some ⟨a, 0, none⟩), .int .i64 z] w (RetB w false) := by
  have HD := Lib.hid (deliver_none B w a v vs ps hN hps z hz)
  clear hN hz
  go_enter Try.func20, Try.ntmps20
  go_wp2_with (go_at_call 11; refine HD.out.mono ?_; rintro e w2 ⟨rfl, hb2⟩)
  go_ret
  exact ⟨rfl, hb2.alloc hb2.size _⟩
set_option maxRecDepth 100000 in
theorem twice_none : Calls Try.prog 14 #[.pointer (some ⟨a, 0, none⟩), .int .i64 z] w (RetB w false) := by
  have HD := Lib.hid (peek_none B w a v vs ps hN hps z hz)
  clear hN hz
  go_enter Try.func14, Try.ntmps14
  go_wp2_with (first
    | (refine wpList_unguard rfl ?_)
    | (go_at_call 16; refine HD.out.mono ?_; rintro e w2 ⟨rfl, hb2⟩))
  go_ret
  exact ⟨rfl, hb2.alloc hb2.size _⟩
end
section
variable (B : Nat) (w : World) (a : Nat) (v : Value) (vs : List PkV) (ps : List Pk) (hN : NetAt B w a v vs ps) (hps : ps.length ≤ 200) (hB : B ≤ w.heap.size) (k : Nat) (p : Pk) (hk : ps[k]? = some p) (hpl : p.b.length ≤ 131072)
include hN hps hB hk hpl
set_option maxRecDepth 100000 in
theorem drop_some : Calls Try.prog 20 #[.pointer (some ⟨a, 0, none⟩), .int .i64 k] w fun e w' => e = .returned (.bool true) ∧ NetNow B w a v (ps.eraseIdx k) w' := by
  have HD := Lib.hid (deliver_some B w a v vs ps hN hps hB k p hk hpl)
  obtain ⟨f, t, b⟩ := p
  clear hN hk
  go_enter Try.func20, Try.ntmps20
  go_wp2_with (go_at_call 11; refine HD.out.mono ?_; rintro e w2 ⟨A2, c2, rfl, _, _, _, hn2⟩)
  go_ret
  obtain ⟨v', vs', h1, h2, h3⟩ := hn2
  exact ⟨rfl, v', vs', h1.grow ((Below.refl _ _).alloc (Nat.le_refl _) _), h2.alloc _, h3⟩
end
end Go.Proofs.Ytlgkgmnnmlhaeaa
