/- Frames as plain functions of bytes: put, next, scan. No program; no condition. -/
import Derived.Test.YtchhejheobceiaaPut
import Derived.Test.YtchhejheobceiaaSum
namespace Go.Proofs.Ytchhejheobceiaa
open Go.RowKit

def frameMost : Nat := 131072
/-- Bytes as a frame. -/
def putL (p : List UInt8) : List UInt8 := le4 p.length ++ p ++ le4 (sumL (le4 p.length ++ p))
/-- The word that a row begins with. -/
def headWord : List UInt8 → Nat
  | e :: f :: g :: h :: _ => word4 e f g h
  | _ => 0
/-- The frame that bytes begin with, how many bytes it has, what stands there: 1 whole, 2 torn, 3 bad. -/
def nextL : List UInt8 → List UInt8 × Nat × Nat
  | a :: b :: c :: d :: r =>
    if frameMost < word4 a b c d then ([], 0, 3)
    else if r.length < word4 a b c d + 4 then ([], 0, 2)
    else if sumL (a :: b :: c :: d :: r.take (word4 a b c d)) = headWord (r.drop (word4 a b c d)) then (r.take (word4 a b c d), word4 a b c d + 8, 1)
    else ([], 0, 3)
  | _ => ([], 0, 2)
end Go.Proofs.Ytchhejheobceiaa
