/- All that is on its way comes through: then all is got, and nothing waits. No program; no condition. -/
import Derived.Test.YtchhejheobceiaaSesT
namespace Go.Proofs.Ytchhejheobceiaa
open Go.RowKit
set_option linter.unusedVariables false

theorem fm_map {α β γ : Type} {f : β → Option γ} {g : α → β} {k : α → γ} : ∀ (l : List α), (∀ a ∈ l, f (g a) = some (k a)) → (l.map g).filterMap f = l.map k
  | [], _ => rfl
  | a :: l, h => by rw [List.map_cons, List.filterMap_cons, h a List.mem_cons_self, fm_map l (fun b hb => h b (List.mem_cons_of_mem _ hb)), List.map_cons]
/-- The number of the message that a packet bears. -/
def numOf (p : List UInt8) : Option Nat := match parseL p with
  | some (h, _) => if h.has then some h.num else none
  | none => none
def numsOf (q : List (List UInt8)) : List Nat := q.filterMap numOf
def runT (t : Nat) (ns : List Nat) : Nat := ns.foldl (fun t n => if n = t + 1 then t + 1 else t) t
def wt (q : List (List UInt8)) : Nat := q.length + (numsOf q).length
def pend (x : Xs) : Nat := if x.ses.peer = 0 then 2 * x.ses.wait.length else 0
def load (x y : Xs) : Nat := wt x.inn + wt y.inn + pend x + pend y
theorem numsOf_app (a b : List (List UInt8)) : numsOf (a ++ b) = numsOf a ++ numsOf b := List.filterMap_append
theorem wt_app (a b : List (List UInt8)) : wt (a ++ b) = wt a + wt b := by
  unfold wt
  rw [numsOf_app, List.length_append, List.length_append]
  omega
theorem runT_app (t : Nat) (a b : List Nat) : runT t (a ++ b) = runT (runT t a) b := List.foldl_append ..
theorem runT_low : ∀ (ns : List Nat) (t : Nat), (∀ n ∈ ns, n ≤ t) → runT t ns = t
  | [], t, _ => rfl
  | n :: ns, t, h => by
    have h1 := h n List.mem_cons_self
    show runT (if n = t + 1 then t + 1 else t) ns = t
    rw [if_neg (by omega)]
    exact runT_low ns t (fun m hm => h m (List.mem_cons_of_mem _ hm))
theorem runT_range : ∀ (k f t : Nat), 1 ≤ f → f ≤ t + 1 → t + 1 ≤ f + k → runT t (List.range' f k) = f + k - 1
  | 0, f, t, h0, h1, h2 => by show t = f + 0 - 1; omega
  | k + 1, f, t, h0, h1, h2 => by
    rw [List.range'_succ]
    show runT (if f = t + 1 then t + 1 else t) (List.range' (f + 1) k) = f + (k + 1) - 1
    split
    · rw [runT_range k (f + 1) (t + 1) (by omega) (by omega) (by omega)]; omega
    · rw [runT_range k (f + 1) t (by omega) (by omega) (by omega)]; omega
theorem numOf_some {p : List UInt8} {h : Hd} {m : List UInt8} (hp : parseL p = some (h, m)) : numOf p = if h.has then some h.num else none := by
  unfold numOf
  rw [hp]
theorem tick_nums {s : Se} {sent : List (List UInt8)} (hl : s.life = 1) (hp : s.peer ≤ 1) (ht2 : s.took ≤ 1000000) (hf : 1 ≤ s.first) (hw : s.wait = sent.drop (s.first - 1)) (hn : sent.length ≤ 1000000) (hm : ∀ m ∈ sent, m.length ≤ 65536) :
    numsOf (tickL s) = List.range' s.first s.wait.length := by
  have h1 : ∀ i, i < s.wait.length → numOf (pktL s (s.first + i) true (s.wait.getD i [])) = some (s.first + i) := fun i hi => by
    have hg : s.wait[i]? = some (s.wait.getD i []) := by simp [List.getD, hi]
    have hlt : s.first - 1 + i < sent.length := by have := hi; rw [hw, List.length_drop] at this; omega
    have hmem : (s.wait.getD i []) ∈ sent := by
      rw [hw, List.getElem?_drop] at hg
      rw [hw]
      exact List.mem_of_getElem? hg
    have h : parseL (pktL s (s.first + i) true (s.wait.getD i [])) = some (⟨s.life, s.peer, s.first + i, s.took, true⟩, s.wait.getD i []) := parse_pkt (s := s) ⟨by omega, by unfold farN; omega⟩ (by unfold farN; omega) (by unfold farN; omega) (by unfold farN; omega) (by simp) (hm _ hmem)
    rw [numOf_some h]
    exact if_pos rfl
  unfold numsOf tickL
  rw [fm_map (k := fun i => s.first + i) _ (fun i hi => h1 i (List.mem_range.1 hi)), List.range'_eq_map_range]
/-- What lies on its way from S to R, and back, ends it. -/
structure Flow (S R : Xs) : Prop where
  nums : runT R.ses.took (numsOf R.inn) = S.sent.length
  acks : S.ses.wait = [] ∨ (∃ p ∈ S.inn, ∃ h m, parseL p = some (h, m) ∧ h.peer = 1 ∧ h.ack = S.sent.length) ∨ numsOf R.inn ≠ []
theorem sound_nums {sent : List (List UInt8)} {t : Nat} {q : List (List UInt8)} (h : ∀ p ∈ q, Sound sent t p) : ∀ n ∈ numsOf q, n ≤ sent.length := by
  intro n hn
  obtain ⟨p, hp, hpn⟩ := List.mem_filterMap.1 hn
  obtain ⟨hd, m, h1, _, _, h4, _⟩ := h p hp
  rw [numOf_some h1] at hpn
  split at hpn
  · rename_i hh
    injection hpn with hpn
    obtain ⟨h5, h6⟩ := h4 hh
    have := (List.getElem?_eq_some_iff.1 h6).1
    omega
  · cases hpn
section
variable {x y : Xs} (hs : Safe x y) (hx : x.sent.length ≤ 10000) (hy : y.sent.length ≤ 10000)
include hs hx hy
/-- The head of what is on its way to x is received. -/
theorem drain_recv {p : List UInt8} {q : List (List UInt8)} (hq : x.inn = p :: q) (f1 : Flow x y) (f2 : Flow y x) :
    Flow { x with ses := (recvL x.ses p).1, inn := q, got := x.got ++ (recvL x.ses p).2.1 } { y with inn := y.inn ++ (recvL x.ses p).2.2.1 } ∧
    Flow { y with inn := y.inn ++ (recvL x.ses p).2.2.1 } { x with ses := (recvL x.ses p).1, inn := q, got := x.got ++ (recvL x.ses p).2.1 } ∧
    load { x with ses := (recvL x.ses p).1, inn := q, got := x.got ++ (recvL x.ses p).2.1 } { y with inn := y.inn ++ (recvL x.ses p).2.2.1 } + 1 ≤ load x y := by
  have hpm : p ∈ x.inn := by rw [hq]; exact List.mem_cons_self
  obtain ⟨h, m, g⟩ := recv_got hs hpm
  obtain ⟨t1, _⟩ := took_le hs hpm g
  have ho := out_sound hs hx g (by omega)
  have hnp : numsOf x.inn = (if h.has then [h.num] else []) ++ numsOf q := by
    rw [hq]
    show (p :: q).filterMap numOf = _
    rw [List.filterMap_cons, numOf_some g.par]
    cases h.has <;> rfl
  have ha := ack_parse (s := (recvL x.ses p).1) g.life (by rw [g.peer]; omega) (by omega)
  have n1 := f2.nums
  rw [hnp, runT_app] at n1
  have hrun : runT x.ses.took (if h.has then [h.num] else []) = (recvL x.ses p).1.took := by
    rw [g.took]
    cases hh : h.has
    · rfl
    · show (if h.num = x.ses.took + 1 then x.ses.took + 1 else x.ses.took) = _
      simp only [true_and]
  rw [hrun] at n1
  refine ⟨⟨?_, ?_⟩, ⟨n1, ?_⟩, ?_⟩
  · show runT y.ses.took (numsOf (y.inn ++ (recvL x.ses p).2.2.1)) = x.sent.length
    rw [numsOf_app, runT_app, f1.nums]
    exact runT_low _ _ (sound_nums ho)
  · show (recvL x.ses p).1.wait = [] ∨ (∃ u ∈ q, _) ∨ numsOf (y.inn ++ (recvL x.ses p).2.2.1) ≠ []
    rcases f1.acks with a | ⟨p', hp', h', m', e1, e2, e3⟩ | a
    · left; rw [g.wait, a, List.drop_nil]
    · rw [hq] at hp'
      rcases List.mem_cons.1 hp' with rfl | hp'
      · left
        rw [g.par] at e1
        injection e1 with e1
        injection e1 with e1 _
        subst e1
        rw [g.wait, if_neg (by omega)]
        have hw := hs.1.wait
        have hf := hs.1.first
        have hwl : x.ses.wait.length = x.sent.length - (x.ses.first - 1) := by rw [hw, List.length_drop]
        rw [List.drop_eq_nil_iff]
        unfold Se.done
        omega
      · right; left; exact ⟨p', hp', h', m', e1, e2, e3⟩
    · right; right
      rw [numsOf_app]
      intro e
      exact a (List.append_eq_nil_iff.1 e).1
  · show y.ses.wait = [] ∨ (∃ u ∈ y.inn ++ (recvL x.ses p).2.2.1, _) ∨ numsOf q ≠ []
    rcases f2.acks with a | ⟨p', hp', h', m', e1, e2, e3⟩ | a
    · left; exact a
    · right; left; exact ⟨p', List.mem_append_left _ hp', h', m', e1, e2, e3⟩
    · by_cases hqn : numsOf q = []
      · right; left
        rw [hqn] at n1
        have hh : h.has = true := by
          cases hh : h.has
          · rw [hnp, hqn, hh] at a; exact absurd rfl a
          · rfl
        refine ⟨_, List.mem_append_right _ ?_, _, _, ha, g.peer, n1⟩
        rw [g.out, hh]
        exact List.mem_append_right _ (by simp)
      · right; right; exact hqn
  · have hw : wt x.inn = 1 + (if h.has then 1 else 0) + wt q := by
      unfold wt
      rw [hnp, hq, List.length_append, List.length_cons]
      cases h.has
      · show _ = 1 + 0 + _; simp; omega
      · show _ = 1 + 1 + _; simp; omega
    have hout : wt (recvL x.ses p).2.2.1 = pend x + (if h.has then 1 else 0) := by
      rw [g.out, wt_app]
      have h1 : wt (if x.ses.peer = 0 then tickL { x.ses with peer := 1 } else []) = pend x := by
        unfold pend
        split
        · unfold wt
          rw [tickL_len, tick_nums (s := { x.ses with peer := 1 }) (sent := x.sent) hs.1.life (Nat.le_refl _) (by have := g.more; show x.ses.took ≤ 1000000; omega) hs.1.first.1 hs.1.wait (by omega) hs.1.msg, List.length_range']
          show x.ses.wait.length + x.ses.wait.length = _
          omega
        · rfl
      rw [h1]
      congr 1
      cases h.has
      · rfl
      · show wt [_] = 1
        unfold wt numsOf
        rw [List.filterMap_cons, numOf_some ha]
        rfl
    have hp0 : pend { x with ses := (recvL x.ses p).1, inn := q, got := x.got ++ (recvL x.ses p).2.1 } = 0 := by
      unfold pend
      rw [if_neg (by show ¬ (recvL x.ses p).1.peer = 0; rw [g.peer]; omega)]
    unfold load
    rw [hp0]
    show wt q + wt (y.inn ++ (recvL x.ses p).2.2.1) + 0 + pend y + 1 ≤ _
    rw [wt_app, hout, hw]
    split <;> omega
/-- Both have ticked, and nothing else is on its way. -/
theorem drain_start (wx : x.ses.wait.length ≤ 200) (wy : y.ses.wait.length ≤ 200) : Flow { x with inn := tickL y.ses } { y with inn := tickL x.ses } ∧ Flow { y with inn := tickL x.ses } { x with inn := tickL y.ses } ∧ load { x with inn := tickL y.ses } { y with inn := tickL x.ses } ≤ 1600 := by
  have e1 := tick_nums (s := x.ses) (sent := x.sent) hs.1.life hs.1.peer (by have := hs.2.took; omega) hs.1.first.1 hs.1.wait (by omega) hs.1.msg
  have e2 := tick_nums (s := y.ses) (sent := y.sent) hs.2.life hs.2.peer (by have := hs.1.took; omega) hs.2.first.1 hs.2.wait (by omega) hs.2.msg
  have l1 : x.ses.wait.length = x.sent.length - (x.ses.first - 1) := by rw [hs.1.wait, List.length_drop]
  have l2 : y.ses.wait.length = y.sent.length - (y.ses.first - 1) := by rw [hs.2.wait, List.length_drop]
  have f1 := hs.1.first; have f2 := hs.2.first; have t1 := hs.1.took; have t2 := hs.2.took
  refine ⟨⟨?_, ?_⟩, ⟨?_, ?_⟩, ?_⟩
  · show runT y.ses.took (numsOf (tickL x.ses)) = x.sent.length
    rw [e1, runT_range _ _ _ (by omega) (by omega) (by omega)]
    omega
  · show x.ses.wait = [] ∨ _ ∨ numsOf (tickL x.ses) ≠ []
    rw [e1]
    by_cases h : x.ses.wait = []
    · exact .inl h
    · refine .inr (.inr fun e => h ?_)
      have := congrArg List.length e
      rw [List.length_range'] at this
      exact List.eq_nil_of_length_eq_zero this
  · show runT x.ses.took (numsOf (tickL y.ses)) = y.sent.length
    rw [e2, runT_range _ _ _ (by omega) (by omega) (by omega)]
    omega
  · show y.ses.wait = [] ∨ _ ∨ numsOf (tickL y.ses) ≠ []
    rw [e2]
    by_cases h : y.ses.wait = []
    · exact .inl h
    · refine .inr (.inr fun e => h ?_)
      have := congrArg List.length e
      rw [List.length_range'] at this
      exact List.eq_nil_of_length_eq_zero this
  · show wt (tickL y.ses) + wt (tickL x.ses) + pend x + pend y ≤ 1600
    unfold wt pend
    rw [e1, e2, tickL_len, tickL_len, List.length_range', List.length_range']
    split <;> split <;> omega
omit hs hx hy in
theorem flow_end {S R : Xs} (hd : Dir S R) (f : Flow S R) (h1 : S.inn = []) (h2 : R.inn = []) : R.got = S.sent ∧ S.ses.wait = [] := by
  have hn := f.nums
  rw [h2] at hn
  have hn' : R.ses.took = S.sent.length := hn
  refine ⟨by rw [hd.got, hn', List.take_length], ?_⟩
  rcases f.acks with a | ⟨p, hp, _⟩ | a
  · exact a
  · rw [h1] at hp; cases hp
  · rw [h2] at a; exact absurd rfl a
end
end Go.Proofs.Ytchhejheobceiaa
