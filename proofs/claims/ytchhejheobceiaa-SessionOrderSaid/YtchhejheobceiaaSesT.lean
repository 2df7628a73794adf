/- Two sessions and what is on its way between them, as plain functions: what is got is the first so many of what was sent. No program; no condition. -/
import Derived.Test.YtchhejheobceiaaSesC
namespace Go.Proofs.Ytchhejheobceiaa
open Go.RowKit
set_option linter.unusedVariables false

structure Xs where
  ses : Se
  inn : List (List UInt8)
  sent : List (List UInt8)
  got : List (List UInt8)
/-- A packet that tells only what was sent, and acknowledges only what was taken. -/
def Sound (sent : List (List UInt8)) (took : Nat) (p : List UInt8) : Prop :=
  ∃ h m, parseL p = some (h, m) ∧ h.life = 1 ∧ h.peer ≤ 1 ∧ (h.has = true → 1 ≤ h.num ∧ sent[h.num - 1]? = some m) ∧ h.ack ≤ took
theorem Sound.mono {sent more : List (List UInt8)} {t t' : Nat} {p : List UInt8} (h : Sound sent t p) (ht : t ≤ t') : Sound (sent ++ more) t' p := by
  obtain ⟨hd, m, h1, h2, h3, h4, h5⟩ := h
  refine ⟨hd, m, h1, h2, h3, fun hh => ?_, by omega⟩
  obtain ⟨h6, h7⟩ := h4 hh
  exact ⟨h6, by rw [List.getElem?_append_left (List.getElem?_eq_some_iff.1 h7).1]; exact h7⟩
theorem Sound.up {sent : List (List UInt8)} {t t' : Nat} {p : List UInt8} (h : Sound sent t p) (ht : t ≤ t') : Sound sent t' p := by
  have := Sound.mono (more := []) h ht
  rwa [List.append_nil] at this
/-- From S to R all is in order. -/
structure Dir (S R : Xs) : Prop where
  life : S.ses.life = 1
  peer : S.ses.peer ≤ 1
  took : R.ses.took ≤ S.sent.length
  got : R.got = S.sent.take R.ses.took
  first : 1 ≤ S.ses.first ∧ S.ses.first ≤ R.ses.took + 1
  wait : S.ses.wait = S.sent.drop (S.ses.first - 1)
  new : R.ses.peer = 0 → R.ses.took = 0
  fresh : S.ses.peer = 0 → S.ses.first = 1
  pk : ∀ p ∈ R.inn, Sound S.sent S.ses.took p
  msg : ∀ m ∈ S.sent, m.length ≤ 65536
def Safe (x y : Xs) : Prop := Dir x y ∧ Dir y x
/-- What a step does. -/
inductive OneTo (x y : Xs) (kind : Int) (m : List UInt8) (z : Int) (yes : Bool) : Xs → Xs → Prop
  | sendNo : kind = 1 → OneTo x y kind m z yes x y
  | sendYes : kind = 1 → m.length ≤ 65536 → x.ses.wait.length < 200 → OneTo x y kind m z yes { x with ses := x.ses.push m, sent := x.sent ++ [m] } { y with inn := y.inn ++ [pktL (x.ses.push m) (x.ses.first + x.ses.wait.length) true m] }
  | tick : kind = 2 → OneTo x y kind m z yes x { y with inn := y.inn ++ tickL x.ses }
  | none : kind = 3 ∨ kind = 4 → x.inn = [] → OneTo x y kind m z yes x y
  | recv (k : Nat) (p : List UInt8) (l : List (List UInt8)) : kind = 3 → (k : Int) = roundZ z x.inn.length → x.inn[k]? = some p → l = (if yes then x.inn else x.inn.take k ++ x.inn.drop (k + 1)) →
      OneTo x y kind m z yes { x with ses := (recvL x.ses p).1, inn := l, got := x.got ++ (recvL x.ses p).2.1 } { y with inn := y.inn ++ (recvL x.ses p).2.2.1 }
  | lose (k : Nat) (p : List UInt8) : kind = 4 → x.inn[k]? = some p → OneTo x y kind m z yes { x with inn := x.inn.take k ++ x.inn.drop (k + 1) } y
  | other : kind < 5 → kind ≠ 1 → kind ≠ 2 → kind ≠ 3 → kind ≠ 4 → OneTo x y kind m z yes x y

theorem tick_get {s : Se} {p : List UInt8} (h : p ∈ tickL s) : ∃ i m, s.wait[i]? = some m ∧ p = pktL s (s.first + i) true m := by
  unfold tickL at h
  rw [List.mem_map] at h
  obtain ⟨i, hi, rfl⟩ := h
  rw [List.mem_range] at hi
  exact ⟨i, s.wait[i], List.getElem?_eq_getElem hi, by simp [List.getD, hi]⟩
theorem tick_sound {s : Se} {sent : List (List UInt8)} {t : Nat} (hl : s.life = 1) (hp : s.peer ≤ 1) (ht : s.took ≤ t) (ht2 : s.took ≤ 1000000) (hf : 1 ≤ s.first) (hw : s.wait = sent.drop (s.first - 1)) (hn : sent.length ≤ 1000000) (hm : ∀ m ∈ sent, m.length ≤ 65536) :
    ∀ p ∈ tickL s, Sound sent t p ∧ ∃ n m, parseL p = some (⟨1, s.peer, n, s.took, true⟩, m) ∧ n ≤ sent.length := by
  intro p hpp
  obtain ⟨i, m, hi, rfl⟩ := tick_get hpp
  rw [hw, List.getElem?_drop] at hi
  have hlt := (List.getElem?_eq_some_iff.1 hi).1
  have h : parseL (pktL s (s.first + i) true m) = some (⟨s.life, s.peer, s.first + i, s.took, true⟩, m) := parse_pkt (s := s) ⟨by omega, by unfold farN; omega⟩ (by unfold farN; omega) (by unfold farN; omega) (by unfold farN; omega) (by simp) (hm m (List.mem_of_getElem? hi))
  rw [hl] at h
  refine ⟨⟨_, m, h, rfl, hp, fun _ => ⟨by show 1 ≤ s.first + i; omega, ?_⟩, ht⟩, _, m, h, by omega⟩
  show sent[s.first + i - 1]? = some m
  rw [← hi]
  congr 1
  omega
theorem ack_parse {s : Se} (hl : s.life = 1) (hp : s.peer ≤ 1) (ht2 : s.took ≤ 1000000) : parseL (pktL s 0 false []) = some (⟨1, s.peer, 0, s.took, false⟩, []) := by
  have h : parseL (pktL s 0 false []) = some (⟨s.life, s.peer, 0, s.took, false⟩, []) := parse_pkt (s := s) ⟨by omega, by unfold farN; omega⟩ (by unfold farN; omega) (by unfold farN; omega) (by unfold farN; omega) (by simp) (by simp)
  rwa [hl] at h
theorem Se.eta (s : Se) {p t f : Nat} (hp : s.peer = p) (ht : s.took = t) (hf : s.first = f) : s = { s with peer := p, took := t, first := f } := by
  subst hp ht hf
  rfl

/-- What Recv does to a session that meets a sound packet. -/
structure Got (x y : Xs) (p : List UInt8) (h : Hd) (m : List UInt8) : Prop where
  par : parseL p = some (h, m)
  life : (recvL x.ses p).1.life = 1
  peer : (recvL x.ses p).1.peer = 1
  took : (recvL x.ses p).1.took = if h.has = true ∧ h.num = x.ses.took + 1 then x.ses.took + 1 else x.ses.took
  got : (recvL x.ses p).2.1 = if h.has = true ∧ h.num = x.ses.took + 1 then [m] else []
  first : (recvL x.ses p).1.first = x.ses.first + if h.peer = 0 then 0 else x.ses.done h.ack
  wait : (recvL x.ses p).1.wait = x.ses.wait.drop (if h.peer = 0 then 0 else x.ses.done h.ack)
  out : (recvL x.ses p).2.2.1 = (if x.ses.peer = 0 then tickL { x.ses with peer := 1 } else []) ++ (if h.has then [pktL (recvL x.ses p).1 0 false []] else [])
theorem recv_got {x y : Xs} (hs : Safe x y) {p : List UInt8} (hp : p ∈ x.inn) : ∃ h m, Got x y p h m := by
  obtain ⟨h, m, h1, h2, h3, h4, h5⟩ := hs.2.pk p hp
  have hpl := hs.1.life
  have hpp := hs.1.peer
  have e0 := recvL_eq (s := x.ses) h1
  rw [h2, if_neg (by omega), if_neg (by rw [hpl]; omega)] at e0
  have hm1 : x.ses.meet 1 = { x.ses with peer := 1 } := by
    unfold Se.meet
    split
    · have k0 : x.ses.peer = 0 := by omega
      have k1 := hs.2.new k0
      have k2 := hs.1.fresh k0
      rw [Se.mk.injEq]
      exact ⟨rfl, rfl, k1.symm, k2.symm, rfl⟩
    · have k0 : x.ses.peer = 1 := by omega
      rw [← k0]
  have hm2 : x.ses.meetOut 1 = if x.ses.peer = 0 then tickL { x.ses with peer := 1 } else [] := by
    unfold Se.meetOut
    by_cases k0 : x.ses.peer = 0
    · have k1 := hs.2.new k0
      have k2 := hs.1.fresh k0
      rw [if_pos (by omega), if_pos k0]
      congr 1
      rw [Se.mk.injEq]
      exact ⟨rfl, rfl, k1.symm, k2.symm, rfl⟩
    · rw [if_neg (by omega), if_neg k0]
  rw [hm1, hm2] at e0
  have a1 : (Se.acked { x.ses with peer := 1 } h).life = 1 := by unfold Se.acked; split <;> exact hpl
  have a2 : (Se.acked { x.ses with peer := 1 } h).peer = 1 := by unfold Se.acked; split <;> rfl
  have a3 : (Se.acked { x.ses with peer := 1 } h).took = x.ses.took := by unfold Se.acked; split <;> rfl
  have a4 : (Se.acked { x.ses with peer := 1 } h).first = x.ses.first + if h.peer = 0 then 0 else x.ses.done h.ack := by unfold Se.acked; split <;> rfl
  have a5 : (Se.acked { x.ses with peer := 1 } h).wait = x.ses.wait.drop (if h.peer = 0 then 0 else x.ses.done h.ack) := by unfold Se.acked; split <;> rfl
  generalize Se.acked { x.ses with peer := 1 } h = s2 at *
  by_cases hf : h.has = false
  · rw [if_pos hf] at e0
    have hneg : ¬ (h.has = true ∧ h.num = x.ses.took + 1) := by rw [hf]; simp
    refine ⟨h, m, h1, ?_, ?_, ?_, ?_, ?_, ?_, ?_⟩ <;> rw [e0]
    · exact a1
    · exact a2
    · rw [if_neg hneg]; exact a3
    · show [] = _; rw [if_neg hneg]
    · exact a4
    · exact a5
    · rw [hf]; simp
  · have ht : h.has = true := by simpa using hf
    rw [if_neg hf, a3] at e0
    have t1 : (s2.take h).life = 1 := by unfold Se.take; split <;> exact a1
    have t2 : (s2.take h).peer = 1 := by unfold Se.take; split <;> exact a2
    have t3 : (s2.take h).took = if h.num = x.ses.took + 1 then x.ses.took + 1 else x.ses.took := by
      unfold Se.take
      rw [a3]
      split
      · rfl
      · exact a3
    have t4 : (s2.take h).first = s2.first := by unfold Se.take; split <;> rfl
    have t5 : (s2.take h).wait = s2.wait := by unfold Se.take; split <;> rfl
    generalize s2.take h = s3 at *
    refine ⟨h, m, h1, ?_, ?_, ?_, ?_, ?_, ?_, ?_⟩ <;> rw [e0]
    · exact t1
    · exact t2
    · simp only [ht, true_and]; exact t3
    · simp only [ht, true_and]
    · rw [t4]; exact a4
    · rw [t5]; exact a5
    · simp only [ht, if_true]
theorem Got.more {x y : Xs} {p : List UInt8} {h : Hd} {m : List UInt8} (g : Got x y p h m) : x.ses.took ≤ (recvL x.ses p).1.took := by
  rw [g.took]
  split <;> omega
section
variable {x y : Xs} (hs : Safe x y) (hx : x.sent.length ≤ 10000) (hy : y.sent.length ≤ 10000)
include hs hx hy
omit hy in
/-- All that a Recv sends out is sound. -/
theorem out_sound {p : List UInt8} {h : Hd} {m : List UInt8} (g : Got x y p h m) (ht : (recvL x.ses p).1.took ≤ 10000) : ∀ q ∈ (recvL x.ses p).2.2.1, Sound x.sent (recvL x.ses p).1.took q := by
  intro q hq
  rw [g.out] at hq
  rcases List.mem_append.1 hq with hq | hq
  · split at hq
    · exact (tick_sound (s := { x.ses with peer := 1 }) hs.1.life (Nat.le_refl _) g.more (by have := g.more; show x.ses.took ≤ 1000000; omega) hs.1.first.1 hs.1.wait (by omega) hs.1.msg q hq).1
    · cases hq
  · split at hq
    · simp at hq
      subst hq
      refine ⟨_, _, ack_parse g.life (by rw [g.peer]; omega) (by omega), rfl, by show (recvL x.ses p).1.peer ≤ 1; rw [g.peer]; omega, (fun hh => by cases hh), Nat.le_refl _⟩
    · cases hq
omit hx hy in
theorem took_le {p : List UInt8} (hp : p ∈ x.inn) {h : Hd} {m : List UInt8} (g : Got x y p h m) : (recvL x.ses p).1.took ≤ y.sent.length ∧ x.got ++ (recvL x.ses p).2.1 = y.sent.take (recvL x.ses p).1.took := by
  obtain ⟨h', m', e1, e2, e3, e4, e5⟩ := hs.2.pk p hp
  rw [g.par] at e1
  injection e1 with e1
  injection e1 with e1 e1'
  subst e1 e1'
  rw [g.took, g.got]
  by_cases hc : h.has = true ∧ h.num = x.ses.took + 1
  · rw [if_pos hc, if_pos hc]
    obtain ⟨k1, k2⟩ := e4 hc.1
    rw [hc.2] at k2
    have hlt := (List.getElem?_eq_some_iff.1 k2).1
    refine ⟨by omega, ?_⟩
    rw [hs.2.got, List.take_add_one]
    rw [show x.ses.took + 1 - 1 = x.ses.took by omega] at k2
    rw [k2]
    rfl
  · rw [if_neg hc, if_neg hc, List.append_nil]
    exact ⟨hs.2.took, hs.2.got⟩
omit hx hy in
theorem done_le {p : List UInt8} (hp : p ∈ x.inn) {h : Hd} {m : List UInt8} (g : Got x y p h m) : x.ses.first + (if h.peer = 0 then 0 else x.ses.done h.ack) ≤ y.ses.took + 1 ∧ x.ses.wait.drop (if h.peer = 0 then 0 else x.ses.done h.ack) = x.sent.drop (x.ses.first + (if h.peer = 0 then 0 else x.ses.done h.ack) - 1) := by
  obtain ⟨h', m', e1, e2, e3, e4, e5⟩ := hs.2.pk p hp
  rw [g.par] at e1
  injection e1 with e1
  injection e1 with e1 e1'
  subst e1 e1'
  have hf := hs.1.first
  constructor
  · split
    · omega
    · unfold Se.done; omega
  · rw [hs.1.wait, List.drop_drop]
    congr 1
    omega
theorem safe_recv {k : Nat} {p : List UInt8} {l : List (List UInt8)} (hp : x.inn[k]? = some p) (hl : ∀ q ∈ l, q ∈ x.inn) :
    Safe { x with ses := (recvL x.ses p).1, inn := l, got := x.got ++ (recvL x.ses p).2.1 } { y with inn := y.inn ++ (recvL x.ses p).2.2.1 } := by
  have hpm := List.mem_of_getElem? hp
  obtain ⟨h, m, g⟩ := recv_got hs hpm
  obtain ⟨t1, t2⟩ := took_le hs hpm g
  obtain ⟨d1, d2⟩ := done_le hs hpm g
  have hf := hs.1.first
  have ho := out_sound hs hx g (by omega)
  refine ⟨⟨g.life, by show (recvL x.ses p).1.peer ≤ 1; rw [g.peer]; omega, hs.1.took, hs.1.got, by show 1 ≤ (recvL x.ses p).1.first ∧ (recvL x.ses p).1.first ≤ _; rw [g.first]; exact ⟨by omega, d1⟩, by show (recvL x.ses p).1.wait = x.sent.drop ((recvL x.ses p).1.first - 1); rw [g.wait, g.first]; exact d2, hs.1.new, fun e => by have e' : (recvL x.ses p).1.peer = 0 := e; rw [g.peer] at e'; omega, fun q hq => ?_, hs.1.msg⟩,
    ⟨hs.2.life, hs.2.peer, t1, t2, ⟨hs.2.first.1, by have := hs.2.first.2; have := g.more; show y.ses.first ≤ (recvL x.ses p).1.took + 1; omega⟩, hs.2.wait, fun e => by have e' : (recvL x.ses p).1.peer = 0 := e; rw [g.peer] at e'; omega, hs.2.fresh, fun q hq => hs.2.pk q (hl q hq), hs.2.msg⟩⟩
  rcases List.mem_append.1 hq with hq | hq
  · exact (hs.1.pk q hq).up g.more
  · exact ho q hq
theorem safe_send {m : List UInt8} (hm : m.length ≤ 65536) : Safe { x with ses := x.ses.push m, sent := x.sent ++ [m] } { y with inn := y.inn ++ [pktL (x.ses.push m) (x.ses.first + x.ses.wait.length) true m] } := by
  have hf := hs.1.first
  have ht := hs.1.took
  have hwl : x.ses.wait.length = x.sent.length - (x.ses.first - 1) := by rw [hs.1.wait, List.length_drop]
  have htk := hs.2.took
  refine ⟨⟨hs.1.life, hs.1.peer, by show y.ses.took ≤ (x.sent ++ [m]).length; rw [List.length_append]; omega, by show y.got = (x.sent ++ [m]).take _; rw [List.take_append_of_le_length ht]; exact hs.1.got, hs.1.first, ?_, hs.1.new, hs.1.fresh, fun q hq => ?_, fun u hu => ?_⟩,
    ⟨hs.2.life, hs.2.peer, hs.2.took, hs.2.got, hs.2.first, hs.2.wait, hs.2.new, hs.2.fresh, hs.2.pk, hs.2.msg⟩⟩
  · show x.ses.wait ++ [m] = (x.sent ++ [m]).drop (x.ses.first - 1)
    rw [List.drop_append_of_le_length (by omega), ← hs.1.wait]
  · rcases List.mem_append.1 hq with hq | hq
    · exact (hs.1.pk q hq).mono (Nat.le_refl _)
    · simp at hq
      subst hq
      have h : parseL (pktL (x.ses.push m) (x.ses.first + x.ses.wait.length) true m) = some (⟨x.ses.life, x.ses.peer, x.ses.first + x.ses.wait.length, x.ses.took, true⟩, m) := parse_pkt (s := x.ses.push m) ⟨by have := hs.1.life; show 1 ≤ x.ses.life; omega, by have := hs.1.life; show x.ses.life ≤ farN; unfold farN; omega⟩ (by have := hs.1.peer; show x.ses.peer ≤ farN; unfold farN; omega) (by unfold farN; omega) (by show x.ses.took ≤ farN; unfold farN; omega) (by simp) hm
      refine ⟨_, m, h, hs.1.life, hs.1.peer, fun _ => ⟨by show 1 ≤ x.ses.first + x.ses.wait.length; omega, ?_⟩, Nat.le_refl _⟩
      show (x.sent ++ [m])[x.ses.first + x.ses.wait.length - 1]? = some m
      rw [show x.ses.first + x.ses.wait.length - 1 = x.sent.length by omega, List.getElem?_append_right (Nat.le_refl _), Nat.sub_self]
      rfl
  · rcases List.mem_append.1 hu with hu | hu
    · exact hs.1.msg u hu
    · simp at hu; subst hu; exact hm
theorem safe_tick : Safe x { y with inn := y.inn ++ tickL x.ses } := by
  have htk := hs.2.took
  refine ⟨⟨hs.1.life, hs.1.peer, hs.1.took, hs.1.got, hs.1.first, hs.1.wait, hs.1.new, hs.1.fresh, fun q hq => ?_, hs.1.msg⟩, ⟨hs.2.life, hs.2.peer, hs.2.took, hs.2.got, hs.2.first, hs.2.wait, hs.2.new, hs.2.fresh, hs.2.pk, hs.2.msg⟩⟩
  rcases List.mem_append.1 hq with hq | hq
  · exact hs.1.pk q hq
  · exact (tick_sound hs.1.life hs.1.peer (Nat.le_refl _) (by omega) hs.1.first.1 hs.1.wait (by omega) hs.1.msg q hq).1
omit hx hy in
theorem safe_inn {l : List (List UInt8)} (hl : ∀ q ∈ l, q ∈ x.inn) : Safe { x with inn := l } y :=
  ⟨⟨hs.1.life, hs.1.peer, hs.1.took, hs.1.got, hs.1.first, hs.1.wait, hs.1.new, hs.1.fresh, hs.1.pk, hs.1.msg⟩, ⟨hs.2.life, hs.2.peer, hs.2.took, hs.2.got, hs.2.first, hs.2.wait, hs.2.new, hs.2.fresh, fun q hq => hs.2.pk q (hl q hq), hs.2.msg⟩⟩
omit hs hx hy in
theorem cut_mem {l : List (List UInt8)} {k : Nat} : ∀ q ∈ l.take k ++ l.drop (k + 1), q ∈ l := fun q hq => by
  rcases List.mem_append.1 hq with h | h
  · exact List.mem_of_mem_take h
  · exact List.mem_of_mem_drop h
theorem safe_one {kind : Int} {m : List UInt8} {z : Int} {yes : Bool} {x' y' : Xs} (h : OneTo x y kind m z yes x' y') : Safe x' y' := by
  cases h with
  | sendNo _ => exact hs
  | sendYes _ hm _ => exact safe_send hs hx hy hm
  | tick _ => exact safe_tick hs hx hy
  | none _ _ => exact hs
  | recv k p l _ _ hp hl =>
    refine safe_recv hs hx hy hp (fun q hq => ?_)
    rw [hl] at hq
    split at hq
    · exact hq
    · exact cut_mem q hq
  | lose k p _ hp => exact safe_inn hs cut_mem
  | other _ _ _ _ _ => exact hs
end
theorem Safe.swap {x y : Xs} (h : Safe x y) : Safe y x := ⟨h.2, h.1⟩
/-- What is got is the first of what was sent. -/
theorem Safe.firsts {x y : Xs} (h : Safe x y) : y.got.length ≤ x.sent.length ∧ x.sent.take y.got.length = y.got := by
  have h1 := h.1.got
  have h2 := h.1.took
  have hl : y.got.length = y.ses.took := by rw [h1, List.length_take]; omega
  exact ⟨by omega, by rw [hl]; exact h1.symm⟩
end Go.Proofs.Ytchhejheobceiaa
