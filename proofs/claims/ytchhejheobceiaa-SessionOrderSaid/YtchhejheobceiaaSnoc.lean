import Derived.Test.YtchhejheobceiaaOps
namespace Go.Proofs.Ytchhejheobceiaa
theorem bc_snoc (l : List UInt8) (c : UInt8) : bc (l ++ [c]) = bc l ++ [.int .u8 (c.toNat : Int)] := by simp [bc, Lib.byteCells]
end Go.Proofs.Ytchhejheobceiaa
