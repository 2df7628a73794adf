/- The walks of frame.Put and the reference's Put: bytes as a frame, or none where there are too many. No condition. -/
import Derived.Test.YtchhejheobceiaaNextPlain
namespace Go.Proofs.Ytchhejheobceiaa
open Go.RowKit
set_option linter.unusedVariables false

/-- A frame is handed back, fresh; nothing below B has turned. -/
def RetPut (B : Nat) (w : World) (p : List UInt8) (e : Ending) (w' : World) : Prop :=
  ∃ A c, e = .returned (.tuple #[.slice A (putL p).length c, .bool true]) ∧ w'.ownsRow B 5 1 (.slice A (putL p).length c) (putL p).length (bc (putL p)) ∧ Below B w w'
/-- None is handed back. -/
def RetPutNo (w : World) (e : Ending) (w' : World) : Prop := e = .returned (.tuple #[.slice none 0 0, .bool false]) ∧ w = w'
theorem le4_length (v : Nat) : (le4 v).length = 4 := rfl
theorem putL_length (p : List UInt8) : (putL p).length = p.length + 8 := by
  unfold putL
  simp only [List.length_append, le4_length]
  omega
theorem ret_put {B : Nat} {w w' : World} {p : List UInt8} {v : Value} {n : Nat} {xs : List Value} (h : w'.ownsRow B 5 1 v n xs) (hn : n = (putL p).length) (hx : xs = bc (putL p)) (hb : Below B w w') :
    RetPut B w p (.returned (.tuple #[v, .bool true])) w' := by
  subst hn hx
  obtain ⟨A, c, rfl, _⟩ := Owns.form (.inl h)
  exact ⟨A, c, rfl, h, hb⟩

theorem fput_no (A : Option Addr) (n c : Nat) (w : World) (hn : 131072 < n) (hm : n ≤ maxLen) :
    Calls Try.prog 31 #[.slice A n c] w (RetPutNo w) := by
  unfold maxLen at hm
  go_enter Try.func31, Try.ntmps31
  go_wp2
  go_ret2
  exact ⟨rfl, rfl⟩
theorem refFput_no (A : Option Addr) (n c : Nat) (w : World) (hn : 131072 < n) (hm : n ≤ maxLen) :
    Calls Try.prog 42 #[.slice A n c] w (RetPutNo w) := by
  unfold maxLen at hm
  go_enter Try.func42, Try.ntmps42
  go_wp2
  go_ret2
  exact ⟨rfl, rfl⟩

set_option maxRecDepth 100000 in
set_option maxHeartbeats 800000 in
theorem fput_yes (A : Option Addr) (n c : Nat) (p : List UInt8) (w : World) (ha : Reads w w.heap.size 1 A n (bc p)) (hn : n ≤ 131072) :
    Calls Try.prog 31 #[.slice A n c] w (RetPut w.heap.size w p) := by
  have HL : Hid (p.length = n) := by have := ha.1; rw [bc_length] at this; unfold Hid; omega
  have hs := sumL_lt (le4 n ++ p)
  go_enter Try.func31, Try.ntmps31
  go_wp2_with fail
  refine (put_any _ 0 [] n _ w.heap.size (World.ownsRow_nil _ _ _ _) (Nat.le_refl _) (by omega) (by omega)).mono ?_
  rintro e w1 ⟨v1, rfl, ho1, hb1⟩
  have hz1 := hb1.size
  go_wp2_with (at_builtin; refine app_bytes _ rfl (.tmp 11) (.tmp 12) rfl w.heap.size _ _ _ rfl (.inl ho1) w.heap.size _ n _ _ rfl (ha.below hb1) (bc_one _) (by omega) hz1 ?_; intro v2 w2 ho2' hb2 hr2)
  have ho2 := hr2 (.inl ho1)
  clear ho2' hr2
  have hz2 := hb2.size
  have e2 : bc ([] ++ le4 n) ++ bc p = bc (le4 n ++ p) := by simp [Lib.byteCells]
  rw [e2] at ho2
  obtain ⟨A2, c2, rfl, hc2, hm2, hr2⟩ := Owns.form (.inl ho2)
  refine (sum_any _ _ _ (le4 n ++ p) _ hr2 (by omega)).mono ?_
  rintro e w' ⟨rfl, rfl⟩
  go_wp2_with fail
  refine (put_any _ _ (le4 n ++ p) _ _ w.heap.size ho2 (by omega) (by omega) hs).mono ?_
  rintro e w3 ⟨v3, rfl, ho3, hb3⟩
  go_wp2
  go_ret2
  exact ret_put ho3 (by rw [putL_length, HL.out]; omega) (by rw [putL, HL.out]) ((hb1.trans hb2).trans hb3)

set_option maxRecDepth 100000 in
set_option maxHeartbeats 800000 in
theorem refFput_yes (A : Option Addr) (n c : Nat) (p : List UInt8) (w : World) (ha : Reads w w.heap.size 1 A n (bc p)) (hn : n ≤ 131072) :
    Calls Try.prog 42 #[.slice A n c] w (RetPut w.heap.size w p) := by
  have HL : Hid (p.length = n) := by have := ha.1; rw [bc_length] at this; unfold Hid; omega
  have hs := sumL_lt (le4 n ++ p)
  go_enter Try.func42, Try.ntmps42
  go_wp2_with fail
  refine (four_any n _ (by omega)).mono ?_
  rintro e w1 ⟨v1, rfl, ho1, hb1⟩
  have hz1 := hb1.size
  go_wp2_with (at_builtin; refine app_bytes _ rfl (.tmp 11) (.tmp 12) rfl w.heap.size _ _ _ rfl (.inl ho1) w.heap.size _ n _ _ rfl (ha.below hb1) (bc_one _) (by rw [le4_length]; omega) hz1 ?_; intro v2 w2 ho2' hb2 hr2)
  have ho2 := hr2 (.inl ho1)
  clear ho2' hr2
  have hz2 := hb2.size
  have e2 : bc (le4 n) ++ bc p = bc (le4 n ++ p) := by simp [Lib.byteCells]
  rw [e2] at ho2
  obtain ⟨A2, c2, rfl, hc2, hm2, hr2⟩ := Owns.form (.inl ho2)
  refine (refSum_any _ _ _ (le4 n ++ p) _ hr2 (by omega)).mono ?_
  rintro e w' ⟨rfl, rfl⟩
  go_wp2_with fail
  refine (four_any _ _ hs).mono ?_
  rintro e w3 h3
  obtain ⟨A3, c3, rfl, ho3, hb3, hc3, hm3, hr3⟩ := h3.open_
  have hz3 := hb3.size
  go_wp2_with (at_builtin; refine app_bytes _ rfl (.tmp 14) (.tmp 17) rfl w.heap.size _ _ _ rfl (Owns.below (.inl ho2) hb3 (Nat.le_refl _)) w3.heap.size _ _ _ _ rfl hr3 (bc_one _) (by rw [le4_length, le4_length]; omega) (by omega) ?_; intro v4 w4 ho4' hb4 hr4)
  have ho4 := hr4 (.inr (by rw [le4_length]; omega))
  go_ret2
  exact ret_put ho4 (by rw [putL_length, HL.out]; simp only [le4_length]; omega) (by rw [putL, HL.out]; simp [Lib.byteCells]) (((hb1.trans hb2).trans (hb3.mono (by omega))).trans hb4)
end Go.Proofs.Ytchhejheobceiaa
