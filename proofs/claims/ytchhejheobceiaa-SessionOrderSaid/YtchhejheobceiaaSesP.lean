/- What a packet says, as a plain function. No program; no condition. -/
import Derived.Test.YtchhejheobceiaaSes4
namespace Go.Proofs.Ytchhejheobceiaa
open Go.RowKit
set_option linter.unusedVariables false

def farN : Nat := 1099511627776
/-- A number of at most 2^40 that bytes begin with, and what is behind it. -/
def numL (b : List UInt8) : Option (Nat × List UInt8) := if (unv b).2 = 0 ∨ farN < (unv b).1 then none else some ((unv b).1, b.drop (unv b).2)
structure Hd where
  life : Nat
  peer : Nat
  num : Nat
  ack : Nat
  has : Bool
def numsL : Nat → List UInt8 → Option (List Nat × List UInt8)
  | 0, b => some ([], b)
  | k + 1, b => match numL b with
    | none => none
    | some (v, r) => (numsL k r).map fun p => (v :: p.1, p.2)
def hdL (xs : List Nat) (b : List UInt8) : Option (Hd × List UInt8) :=
  match b with
  | [] => none
  | x :: m => if xs.getD 0 0 < 1 ∨ 1 < x.toNat ∨ (x.toNat = 0 ∧ m ≠ []) then none else some (⟨xs.getD 0 0, xs.getD 1 0, xs.getD 2 0, xs.getD 3 0, x.toNat == 1⟩, m)
/-- The packet's head and message. -/
def parseL (l : List UInt8) : Option (Hd × List UInt8) :=
  if (nextL l).2.2 ≠ 1 ∨ (nextL l).2.1 < l.length then none else match numsL 4 (nextL l).1 with
  | none => none
  | some (xs, b) => hdL xs b
theorem numsL_len : ∀ (k : Nat) (b : List UInt8) (xs : List Nat) (r : List UInt8), numsL k b = some (xs, r) → xs.length = k
  | 0, b, xs, r, h => by injection h with h; injection h with h _; rw [← h]; rfl
  | k + 1, b, xs, r, h => by
    rw [numsL] at h
    cases hn : numL b with
    | none => rw [hn] at h; cases h
    | some p =>
      obtain ⟨v, r'⟩ := p
      rw [hn] at h
      simp only at h
      cases hm : numsL k r' with
      | none => rw [hm] at h; cases h
      | some q =>
        rw [hm] at h
        injection h with h
        injection h with h1 h2
        subst h1
        have := numsL_len k r' q.1 q.2 hm
        simp [this]
theorem numL_uv (v : Nat) (r : List UInt8) (hv : v ≤ farN) : numL (Lib.uvarint v ++ r) = some (v, r) := by
  unfold farN at hv
  have h := unv_uvarint v r (by omega)
  have h1 := Lib.uvarint_pos v
  unfold numL farN
  rw [h, if_neg (by simp only; omega)]
  simp
theorem numsL_body {l p n t : Nat} (hl : l ≤ farN) (hp : p ≤ farN) (hn : n ≤ farN) (ht : t ≤ farN) (r : List UInt8) : numsL 4 ((((Lib.uvarint l ++ Lib.uvarint p) ++ Lib.uvarint n) ++ Lib.uvarint t) ++ r) = some ([l, p, n, t], r) := by
  simp only [List.append_assoc]
  simp [numsL, numL_uv, hl, hp, hn, ht]
/-- .. of what a session has made. -/
theorem parse_body {l p n t : Nat} (hl : 1 ≤ l ∧ l ≤ farN) (hp : p ≤ farN) (hn : n ≤ farN) (ht : t ≤ farN) (has : Bool) (m : List UInt8) (hm : has = false → m = []) (hb : nextL (putL (bodyL l p n t has m)) = (bodyL l p n t has m, (putL (bodyL l p n t has m)).length, 1)) :
    parseL (putL (bodyL l p n t has m)) = some (⟨l, p, n, t, has⟩, m) := by
  unfold parseL
  rw [hb]
  simp only [ne_eq, not_true_eq_false, Nat.lt_irrefl, or_self, if_false]
  unfold bodyL
  rw [List.append_assoc, numsL_body hl.2 hp hn ht]
  cases has with
  | true =>
    have h1 : ((1 : UInt8).toNat) = 1 := rfl
    simp [hdL]
    omega
  | false =>
    have := hm rfl
    subst this
    simp [hdL]
    omega
end Go.Proofs.Ytchhejheobceiaa
