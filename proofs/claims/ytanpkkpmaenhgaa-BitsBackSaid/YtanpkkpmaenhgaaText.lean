/- The walks of bits.Text and the reference's: bytes with a text's length and the text behind them. Its condition: fewer than 2^47 bytes in all. -/
import Derived.Test.YtanpkkpmaenhgaaClone
import Derived.Test.YtanpkkpmaenhgaaBitsVar
namespace Go.Proofs.Ytanpkkpmaenhgaa
open Go.RowKit
set_option linter.unusedVariables false

/-- What Text lays. -/
def textL (l : List UInt8) (s : ByteArray) : List UInt8 := l ++ Lib.uvarint s.size ++ s.data.toList
theorem size_toList (s : ByteArray) : s.data.toList.length = s.size := by rw [Array.length_toList]; rfl

theorem textL_own {w : World} {B : Nat} {v : Value} {l : List UInt8} {s : ByteArray} {n : Nat} {xs : List Value} (h : w.ownsRow B 5 1 v n xs) (hn : n = (textL l s).length) (hx : xs = bc (textL l s)) :
    w.ownsRow B 5 1 v (textL l s).length (bc (textL l s)) := by subst hn hx; exact h

set_option maxRecDepth 100000 in
set_option maxHeartbeats 400000 in
theorem text_any (A : Option Addr) (n c : Nat) (l : List UInt8) (s : ByteArray) (w : World) (ha : Reads w w.heap.size 1 A n (bc l)) (hn : n ≤ 1000000) (hs : s.size ≤ 1000000) :
    Calls Try.prog 15 #[.slice A n c, .string s] w (RetBytes w.heap.size w (textL l s)) := by
  have hl : l.length ≤ n := by have := ha.1; rw [bc_length] at this; omega
  have hv := Lib.uvarint_length64 (show s.size < 18446744073709551616 by omega)
  go_enter Try.func15, Try.ntmps15
  go_wp2_with fail
  refine (clone_any A n c l _ ha (Nat.le_refl _) (by omega)).mono ?_
  rintro e w1 h1
  obtain ⟨A1, c1, rfl, ho1, hb1, hc1, hm1, hr1⟩ := h1.open_
  go_wp2_with fail
  refine (varint_int _ _ (by omega) (by omega)).mono ?_
  rintro e w2 h2
  rw [Int.toNat_natCast] at h2
  obtain ⟨A2, c2, rfl, ho2, hb2, hc2, hm2, hr2⟩ := h2.open_
  go_wp2_with (first
    | (at_builtin; refine app_bytes _ rfl (.tmp 6) (.tmp 10) rfl w.heap.size _ _ _ rfl (Owns.below (.inl ho1) hb2 (Nat.le_refl _)) w2.heap.size _ _ _ _ rfl hr2 (bc_one _) (by omega) (by have := hb1.size; have := hb2.size; omega) ?_; intro v3 w3 ho3 hb3 hr3)
    | (at_builtin; refine app_string _ rfl (.tmp 11) (.tmp 12) rfl w.heap.size _ _ _ rfl (hr3 (.inr (Lib.uvarint_pos _))) s rfl (by omega) (by have := hb1.size; have := hb2.size; have := hb3.size; omega) ?_; intro v4 w4 ho4 hb4))
  go_ret
  refine ⟨v4, rfl, textL_own ho4 (by simp only [textL, List.length_append, size_toList]) (by simp [textL, Lib.byteCells_append]), ((hb1.trans (hb2.mono hb1.size)).trans hb3).trans hb4⟩

set_option maxRecDepth 100000 in
set_option maxHeartbeats 400000 in
theorem refText_any (A : Option Addr) (n c : Nat) (l : List UInt8) (s : ByteArray) (w : World) (ha : Reads w w.heap.size 1 A n (bc l)) (hn : n ≤ 1000000) (hs : s.size ≤ 1000000) :
    Calls Try.prog 23 #[.slice A n c, .string s] w (RetBytes w.heap.size w (textL l s)) := by
  have hl : l.length = n := by have := ha.1; rw [bc_length] at this; omega
  have hv := Lib.uvarint_length64 (show s.size < 18446744073709551616 by omega)
  have HL := Lib.hid hl
  clear hl
  go_enter Try.func23, Try.ntmps23
  go_wp2_with (at_builtin; refine app_bytes _ rfl (.tmp 6) (.tmp 7) rfl w.heap.size _ 0 [] rfl (.inl (World.ownsRow_made w #[] 0 (Nat.le_refl _) (Nat.zero_le _) rfl)) w.heap.size _ n _ (bc l) rfl (ha.alloc (Nat.le_refl _) _) (bc_one _) (by omega) (le_alloc (Nat.le_refl _)) ?_; intro v1 w1 ho1 hb1' hr1)
  have ho1 := hr1 (.inl (World.ownsRow_made w #[] 0 (Nat.le_refl _) (Nat.zero_le _) rfl))
  rw [Nat.zero_add, List.nil_append] at ho1
  have hb1 := ((Below.refl w.heap.size w).alloc (Nat.le_refl _) (.cells #[] 5)).trans hb1'
  clear hr1 hb1'
  refine (refVarint_int _ _ (by omega) (by omega)).mono ?_
  rintro e w2 h2
  rw [Int.toNat_natCast] at h2
  obtain ⟨A2, c2, rfl, ho2, hb2, hc2, hm2, hr2⟩ := h2.open_
  go_wp2_with (first
    | (at_builtin; refine app_bytes _ rfl (.tmp 9) (.tmp 13) rfl w.heap.size _ _ _ rfl (Owns.below (.inl ho1) hb2 (Nat.le_refl _)) w2.heap.size _ _ _ _ rfl hr2 (bc_one _) (by omega) (by have := hb1.size; have := hb2.size; omega) ?_; intro v3 w3 ho3 hb3 hr3)
    | (at_builtin; refine app_string _ rfl (.tmp 14) (.tmp 15) rfl w.heap.size _ _ _ rfl (hr3 (.inr (Lib.uvarint_pos _))) s rfl (by omega) (by have := hb1.size; have := hb2.size; have := hb3.size; omega) ?_; intro v4 w4 ho4 hb4))
  go_ret
  refine ⟨v4, rfl, textL_own ho4 (by rw [← HL.out]; simp only [textL, List.length_append, size_toList]) (by simp [textL, Lib.byteCells_append]), ((hb1.trans (hb2.mono hb1.size)).trans hb3).trans hb4⟩
end Go.Proofs.Ytanpkkpmaenhgaa
