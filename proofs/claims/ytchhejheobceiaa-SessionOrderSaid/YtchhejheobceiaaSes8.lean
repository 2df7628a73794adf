/- What a session's packet says to Recv; the walk of awake. No condition. -/
import Derived.Test.YtchhejheobceiaaSes7
import Derived.Test.YtchhejheobceiaaCrcPlain
import Derived.Lib.SlBytesConst
namespace Go.Proofs.Ytchhejheobceiaa
open Go.RowKit
set_option linter.unusedVariables false

theorem recv_any (B : Nat) (w : World) (a : Nat) (v : Value) (vs : List Value) (s : Se) (h : SesAt B w a v vs s) (hok : s.Ok) (A : Option Addr) (n c : Nat) (l : List UInt8) (hr : Reads w w.heap.size 1 A n (bc l)) (hnc : n ≤ c) (hc : c ≤ maxLen) (hB : B ≤ w.heap.size) :
    Calls Try.prog 9 #[.pointer (some ⟨a, 0, none⟩), .slice A n c] w (RetRecv B w a v (recvL s l)) := by
  cases hp : parseL l with
  | none => exact recv_none B w a v vs s h hok A n c l hr hnc hc hp
  | some p => exact recv_some B w a v vs s h hok A n c l hr hnc hc hB hp
theorem body_len {l p n t : Nat} (hl : l ≤ farN) (hp : p ≤ farN) (hn : n ≤ farN) (ht : t ≤ farN) (has : Bool) (m : List UInt8) : (bodyL l p n t has m).length ≤ m.length + 41 := by
  unfold farN at *
  have h1 := Lib.uvarint_length64 (x := l) (by omega)
  have h2 := Lib.uvarint_length64 (x := p) (by omega)
  have h3 := Lib.uvarint_length64 (x := n) (by omega)
  have h4 := Lib.uvarint_length64 (x := t) (by omega)
  unfold bodyL
  simp only [List.length_append, List.length_cons, List.length_nil]
  omega
theorem parse_pkt {s : Se} (hl : 1 ≤ s.life ∧ s.life ≤ farN) (hp : s.peer ≤ farN) {n : Nat} (hn : n ≤ farN) (ht : s.took ≤ farN) {has : Bool} {m : List UInt8} (hm : has = false → m = []) (hml : m.length ≤ 65536) :
    parseL (pktL s n has m) = some (⟨s.life, s.peer, n, s.took, has⟩, m) := by
  unfold pktL
  have hb := body_len hl.2 hp hn ht has m
  have h := next_put (bodyL s.life s.peer n s.took has m) [] (by omega)
  rw [List.append_nil] at h
  exact parse_body hl hp hn ht has m hm (by rw [h, putL_length])
theorem RowsAt.get {w : World} {b : Nat} {u : Value} {ls : List (List UInt8)} (h : RowsAt w b u ls) {i : Nat} {m : List UInt8} (hi : ls[i]? = some m) :
    ∃ ad c A' c', u = .slice (some ad) ls.length c ∧ w.cell? (ad.add i) = some (.slice A' m.length c') ∧ Reads w w.heap.size 1 A' m.length (bc m) ∧ m.length ≤ c' ∧ c' ≤ maxLen ∧ b ≤ ad.block ∧ ad.block < w.heap.size ∧ OwnB w b (.slice A' m.length c') m := by
  obtain ⟨us, hr, ho⟩ := h
  have hlt : i < ls.length := (List.getElem?_eq_some_iff.1 hi).1
  obtain ⟨A, c, hu, _, _, hrd⟩ := hr.form
  obtain ⟨ad, x, rfl, hab, hx, hcell⟩ := hrd.at_ hlt
  have hob := ho.at_ i x m hx hi
  obtain ⟨A', c', rfl, h1, h2, h3⟩ := hob.value
  exact ⟨ad, c, A', c', hu, hcell, h3, h1, h2, (hr.lt _ (by rw [hu]; rfl)).1, hab, hob⟩

def se1 : Se := newSe 1
theorem se1_ok : se1.Ok := newSe_ok (by omega) (by omega)
theorem push_ok {s : Se} (hok : s.Ok) {m : List UInt8} (hm : m.length ≤ 65536) (hw : s.wait.length < 200) : (s.push m).Ok :=
  ⟨hok.life, hok.peer, hok.took, hok.first, by show (s.wait ++ [m]).length ≤ 200; rw [List.length_append]; simp; omega, fun x hx => by
    rcases List.mem_append.1 hx with hx | hx
    · exact hok.msg x hx
    · simp at hx; subst hx; exact hm⟩
theorem aw1 : recvL se1 (pktL (se1.push [97]) 1 true [97]) = (⟨1, 1, 1, 1, []⟩, [[97]], [pktL ⟨1, 1, 1, 1, []⟩ 0 false []], 0) := by
  have h : parseL (pktL (se1.push [97]) 1 true [97]) = some (⟨1, 0, 1, 0, true⟩, [97]) := parse_pkt (s := se1.push [97]) ⟨by decide, by decide⟩ (by decide) (by decide) (by decide) (by simp) (by decide)
  unfold recvL
  rw [h]
  rfl
theorem aw2 : recvL (se1.push [97]) (pktL ⟨1, 1, 1, 1, []⟩ 0 false []) = (⟨1, 1, 0, 2, []⟩, [], tickL ⟨1, 1, 0, 1, [[97]]⟩, 0) := by
  have h : parseL (pktL ⟨1, 1, 1, 1, []⟩ 0 false []) = some (⟨1, 1, 0, 1, false⟩, []) := parse_pkt (s := ⟨1, 1, 1, 1, []⟩) ⟨by decide, by decide⟩ (by decide) (by decide) (by decide) (by simp) (by decide)
  unfold recvL
  rw [h]
  rfl
end Go.Proofs.Ytchhejheobceiaa
