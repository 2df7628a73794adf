/- What Recv does, as a plain function. No program; no condition. -/
import Derived.Test.YtchhejheobceiaaSesP
namespace Go.Proofs.Ytchhejheobceiaa
open Go.RowKit
set_option linter.unusedVariables false

/-- A session that meets a packet of this life. -/
def Se.meet (s : Se) (l : Nat) : Se := if s.peer < l then { s with peer := l, took := 0, first := 1 } else s
def Se.meetOut (s : Se) (l : Nat) : List (List UInt8) := if s.peer < l then tickL { s with peer := l, took := 0, first := 1 } else []
/-- So many are acknowledged. -/
def Se.done (s : Se) (ack : Nat) : Nat := min (ack + 1 - s.first) s.wait.length
def Se.drop (s : Se) (n : Nat) : Se := { s with wait := s.wait.drop n, first := s.first + n }
/-- .. and behind the acknowledgement. -/
def Se.acked (s : Se) (h : Hd) : Se := if h.peer = 0 then s else s.drop (s.done h.ack)
def Se.take (s : Se) (h : Hd) : Se := if h.num = s.took + 1 then { s with took := s.took + 1 } else s
/-- What Recv leaves, and hands back: what is got, what goes out, the error's number. -/
def recvL (s : Se) (l : List UInt8) : Se × List (List UInt8) × List (List UInt8) × Nat :=
  match parseL l with
  | none => (s, [], [], 10)
  | some (h, m) =>
    if h.life < s.peer then (s, [], [], 0)
    else if h.peer ≠ 0 ∧ h.peer ≠ s.life then (s.meet h.life, [], s.meetOut h.life, 0)
    else if h.has = false then ((s.meet h.life).acked h, [], s.meetOut h.life, 0)
    else ((((s.meet h.life).acked h).take h), (if h.num = ((s.meet h.life).acked h).took + 1 then [m] else []), s.meetOut h.life ++ [pktL (((s.meet h.life).acked h).take h) 0 false []], 0)
end Go.Proofs.Ytchhejheobceiaa
