/- The walk of the law's own 'awake': what the document fixes. No condition. -/
import Derived.Test.YtanpkkpmaenhgaaBitsHash
import Derived.Test.YtanpkkpmaenhgaaBitsVar
import Derived.Test.YtanpkkpmaenhgaaBitsZig
namespace Go.Proofs.Ytanpkkpmaenhgaa
open Go.RowKit

/-- The call answers true; nothing that was there has turned. -/
def RetTrue (w : World) (e : Ending) (w' : World) : Prop := e = .returned (.bool true) ∧ Below w.heap.size w w'

theorem varint300 : Lib.uvarint 300 = [172, 2] := by
  rw [Lib.uvarint_big (by omega), Lib.uvarint_small (by omega)]; decide
theorem hash_a : ((hashL (⟨#[97]⟩ : ByteArray).data.toList : Nat) : Int) = 3826002220 := by decide +kernel

set_option maxRecDepth 100000 in
set_option maxHeartbeats 400000 in
theorem awake_any (w : World) : Calls Try.prog 9 #[] w (RetTrue w) := by
  have z1 : ((Lib.zigzag (-1) : Nat) : Int) = 1 := by decide
  have h1 := hash_a
  go_enter Try.func9, Try.ntmps9
  go_wp2_with fail
  refine (varint_int 300 _ (by omega) (by omega)).mono ?_
  rintro e w1 ⟨v1, rfl, ho, hb⟩
  rw [show (300 : Int).toNat = 300 from rfl, varint300] at ho
  obtain ⟨g, c, rfl, hnc, hm, hB, hg, hcell⟩ := own_open ho (by decide)
  have c0 := hcell 0 _ rfl
  have c1 := hcell 1 _ rfl
  clear hcell ho
  go_wp2_with (first | (go_at_call 11; refine (zig_any (-1) _ (by omega) (by omega)).mono ?_; rintro e w' ⟨rfl, rfl⟩) | (go_at_call 10; refine (hash_any _ _ (by decide)).mono ?_; rintro e w' ⟨rfl, rfl⟩))
  go_ret
  exact ⟨rfl, hb⟩
end Go.Proofs.Ytanpkkpmaenhgaa
