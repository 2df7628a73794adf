/- one: a step of both sides. Its condition: the step is none that begins anew or is made up. -/
import Derived.Test.YtchhejheobceiaaSesQ1
import Derived.Test.YtchhejheobceiaaSesQ3
import Derived.Test.YtchhejheobceiaaSesQ4
namespace Go.Proofs.Ytchhejheobceiaa
open Go.RowKit
set_option linter.unusedVariables false

section
variable {base : Nat} {w : World} {T : Nat → Nat} {t t' a s r : Nat} {q : Sv} {x : Xs} {a' s' r' : Nat} {q' : Sv} {y : Xs} (D : Duo base w T t t' a s r q x x.ses a' s' r' q' y y.ses) (okx : x.ses.Ok) (oky : y.ses.Ok)
  (hxi : x.inn.length ≤ 500000) (hyi : y.inn.length ≤ 500000) (hxs : x.sent.length ≤ 500000) (hxg : x.got.length ≤ 500000)
  (sb : Bool) (kind : Int) (Am : Option Addr) (cm : Nat) (kz : Int) (yes : Bool) (m : List UInt8) (hm : TxAt base w (.slice Am m.length cm) m) (hml : m.length ≤ 100000) (hk5 : kind < 5) (hkz : -9223372036854775808 ≤ kz ∧ kz ≤ 9223372036854775807)
include D okx oky hxi hyi hxs hxg hm hml hk5 hkz
theorem one_any : Calls Try.prog 14 #[.pointer (some ⟨a, 0, none⟩), .pointer (some ⟨a', 0, none⟩), .agg #[.bool sb, .int .i64 kind, .slice Am m.length cm, .int .i64 kz, .bool yes]] w (RetOne base w t t' a s r a' s' r' x y kind m kz yes) := by
  have h : (kind = 1 ∨ kind = 2 ∨ (kind ≠ 1 ∧ kind ≠ 2 ∧ kind ≠ 3 ∧ kind ≠ 4)) ∨ kind = 3 ∨ kind = 4 := by omega
  rcases h with h | h | h
  · exact one_k1 D okx oky hxi hyi hxs hxg sb kind Am cm kz yes m hm hml hk5 hkz (Lib.hid h)
  · exact one_k3 D okx oky hxi hyi hxs hxg sb kind Am cm kz yes m hm hml hk5 hkz (Lib.hid h)
  · exact one_k4 D okx oky hxi hyi hxs hxg sb kind Am cm kz yes m hm hml hk5 hkz (Lib.hid h)
end
end Go.Proofs.Ytchhejheobceiaa
