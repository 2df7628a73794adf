/- one, at both sides as SessionOrder holds them; the steps of the end. No condition but that the step is none that begins anew or is made up. -/
import Derived.Test.YtchhejheobceiaaSesQ
namespace Go.Proofs.Ytchhejheobceiaa
open Go.RowKit
set_option linter.unusedVariables false

structure Duos (base : Nat) (w : World) (a s r a' s' r' : Nat) (q q' : Sv) (x y : Xs) : Prop where
  duo : ∃ T, Duo base w T 0 8 a s r q x x.ses a' s' r' q' y y.ses
  safe : Safe x y
  okx : x.ses.Ok
  oky : y.ses.Ok
def RetDuos (base : Nat) (w : World) (a s r a' s' r' : Nat) (x y : Xs) (kind : Int) (m : List UInt8) (z : Int) (yes : Bool) (e : Ending) (w' : World) : Prop :=
  e = .returned (.bool true) ∧ Below base w w' ∧ ∃ q q' x' y', OneTo x y kind m z yes x' y' ∧ Duos base w' a s r a' s' r' q q' x' y'
def RetDuosY (base : Nat) (w : World) (a s r a' s' r' : Nat) (x y : Xs) (kind : Int) (m : List UInt8) (z : Int) (yes : Bool) (e : Ending) (w' : World) : Prop :=
  e = .returned (.bool true) ∧ Below base w w' ∧ ∃ q q' x' y', OneTo y x kind m z yes y' x' ∧ Duos base w' a s r a' s' r' q q' x' y'
section
variable {base : Nat} {w : World} {a s r a' s' r' : Nat} {q q' : Sv} {x y : Xs}
theorem Duos.same {w1 : World} (h : Duos base w a s r a' s' r' q q' x y) (hb : Below w.heap.size w w1) : Duos base w1 a s r a' s' r' q q' x y := by
  obtain ⟨T, hd⟩ := h.duo
  exact ⟨⟨T, hd.same hb⟩, h.safe, h.okx, h.oky⟩
theorem Duos.hb (h : Duos base w a s r a' s' r' q q' x y) : base ≤ w.heap.size := by obtain ⟨T, hd⟩ := h.duo; exact hd.x.hb
theorem Duos.cells_ (h : Duos base w a s r a' s' r' q q' x y) : w.cell? ⟨a, 0, none⟩ = some (.pointer (some ⟨s, 0, none⟩)) ∧ w.cell? ⟨a, 3, none⟩ = some q.vi ∧ w.cell? ⟨a, 4, none⟩ = some q.vt ∧ w.cell? ⟨a, 5, none⟩ = some q.vg ∧ w.cell? ⟨a', 0, none⟩ = some (.pointer (some ⟨s', 0, none⟩)) ∧ w.cell? ⟨a', 3, none⟩ = some q'.vi ∧ w.cell? ⟨a', 4, none⟩ = some q'.vt ∧ w.cell? ⟨a', 5, none⟩ = some q'.vg := by
  obtain ⟨T, hd⟩ := h.duo
  obtain ⟨x0, _, x3, x4, x5⟩ := hd.x.cells_
  obtain ⟨y0, _, y3, y4, y5⟩ := hd.y.cells_
  exact ⟨x0, x3, x4, x5, y0, y3, y4, y5⟩
theorem Duos.lines (h : Duos base w a s r a' s' r' q q' x y) : Lines base w q.vi x.inn ∧ Lines base w q.vt x.sent ∧ Lines base w q.vg x.got ∧ Lines base w q'.vi y.inn ∧ Lines base w q'.vt y.sent ∧ Lines base w q'.vg y.got := by
  obtain ⟨T, hd⟩ := h.duo
  exact ⟨hd.x.inn, hd.x.sent, hd.x.got, hd.y.inn, hd.y.sent, hd.y.got⟩
theorem one_xy (h : Duos base w a s r a' s' r' q q' x y) (hxi : x.inn.length ≤ 500000) (hyi : y.inn.length ≤ 500000) (hxs : x.sent.length ≤ 10000) (hys : y.sent.length ≤ 10000)
    (sb : Bool) (kind : Int) (Am : Option Addr) (cm : Nat) (kz : Int) (yes : Bool) (m : List UInt8) (hm : TxAt base w (.slice Am m.length cm) m) (hml : m.length ≤ 100000) (hk5 : kind < 5) (hkz : -9223372036854775808 ≤ kz ∧ kz ≤ 9223372036854775807) :
    Calls Try.prog 14 #[.pointer (some ⟨a, 0, none⟩), .pointer (some ⟨a', 0, none⟩), .agg #[.bool sb, .int .i64 kind, .slice Am m.length cm, .int .i64 kz, .bool yes]] w (RetDuos base w a s r a' s' r' x y kind m kz yes) := by
  obtain ⟨T, hd⟩ := h.duo
  have hg := h.safe.swap.firsts.1
  refine (one_any hd h.okx h.oky hxi hyi (by omega) (by omega) sb kind Am cm kz yes m hm hml hk5 hkz).mono ?_
  rintro e w' ⟨h1, h2, T', q1, q2, x', y', h3, h4⟩
  obtain ⟨o1, o2⟩ := one_ok h3 h.okx h.oky
  exact ⟨h1, h2, q1, q2, x', y', h3, ⟨T', h4⟩, safe_one h.safe hxs hys h3, o1, o2⟩
theorem one_yx (h : Duos base w a s r a' s' r' q q' x y) (hxi : x.inn.length ≤ 500000) (hyi : y.inn.length ≤ 500000) (hxs : x.sent.length ≤ 10000) (hys : y.sent.length ≤ 10000)
    (sb : Bool) (kind : Int) (Am : Option Addr) (cm : Nat) (kz : Int) (yes : Bool) (m : List UInt8) (hm : TxAt base w (.slice Am m.length cm) m) (hml : m.length ≤ 100000) (hk5 : kind < 5) (hkz : -9223372036854775808 ≤ kz ∧ kz ≤ 9223372036854775807) :
    Calls Try.prog 14 #[.pointer (some ⟨a', 0, none⟩), .pointer (some ⟨a, 0, none⟩), .agg #[.bool sb, .int .i64 kind, .slice Am m.length cm, .int .i64 kz, .bool yes]] w (RetDuosY base w a s r a' s' r' x y kind m kz yes) := by
  obtain ⟨T, hd⟩ := h.duo
  have hg := h.safe.firsts.1
  refine (one_any hd.swap h.oky h.okx hyi hxi (by omega) (by omega) sb kind Am cm kz yes m hm hml hk5 hkz).mono ?_
  rintro e w' ⟨h1, h2, T', q1, q2, y', x', h3, h4⟩
  obtain ⟨o1, o2⟩ := one_ok h3 h.oky h.okx
  exact ⟨h1, h2, q2, q1, x', y', h3, ⟨T', h4.swap⟩, (safe_one h.safe.swap hys hxs h3).swap, o2, o1⟩
/-- What is on its way to one side is struck. -/
theorem Duos.strike_x (h : Duos base w a s r a' s' r' q q' x y) : Duos base (w.setCell ⟨a, 3, none⟩ (.slice none 0 0)) a s r a' s' r' { q with vi := .slice none 0 0 } q' { x with inn := [] } y ∧ Below base w (w.setCell ⟨a, 3, none⟩ (.slice none 0 0)) := by
  obtain ⟨T, hd⟩ := h.duo
  obtain ⟨h1, h2⟩ := hd.inn (w1 := w) (S := fun _ => False) (u := .slice none 0 0) (l := []) (Kept.refl _ _) (loose_no _ _) (fun _ _ e => e.elim) (lines_nil _ _) (fun g hg => by cases hg)
  exact ⟨⟨⟨_, h1⟩, safe_inn h.safe (fun q hq => by cases hq), h.okx, h.oky⟩, h2.below h.hb⟩
theorem Duos.strike_y (h : Duos base w a s r a' s' r' q q' x y) : Duos base (w.setCell ⟨a', 3, none⟩ (.slice none 0 0)) a s r a' s' r' q { q' with vi := .slice none 0 0 } x { y with inn := [] } ∧ Below base w (w.setCell ⟨a', 3, none⟩ (.slice none 0 0)) := by
  obtain ⟨T, hd⟩ := h.duo
  obtain ⟨h1, h2⟩ := hd.swap.inn (w1 := w) (S := fun _ => False) (u := .slice none 0 0) (l := []) (Kept.refl _ _) (loose_no _ _) (fun _ _ e => e.elim) (lines_nil _ _) (fun g hg => by cases hg)
  exact ⟨⟨⟨_, h1.swap⟩, (safe_inn h.safe.swap (fun q hq => by cases hq)).swap, h.okx, h.oky⟩, h2.below h.hb⟩
theorem Duos.free (h : Duos base w a s r a' s' r' q q' x y) (j : Nat) : w.frozen? ⟨a, j, none⟩ = false ∧ w.frozen? ⟨a', j, none⟩ = false := by
  obtain ⟨T, hd⟩ := h.duo
  exact ⟨hd.x.free j, hd.y.free j⟩
end
/-! ### The steps of the end, as plain functions -/
theorem one_tick {x y x' y' : Xs} {m : List UInt8} {z : Int} {yes : Bool} (h : OneTo x y 2 m z yes x' y') : x' = x ∧ y' = { y with inn := y.inn ++ tickL x.ses } := by
  cases h with
  | sendNo e => exact absurd e (by omega)
  | sendYes e _ _ => exact absurd e (by omega)
  | tick _ => exact ⟨rfl, rfl⟩
  | none e _ => exact absurd e (by omega)
  | recv k p l e _ _ _ => exact absurd e (by omega)
  | lose k p e _ => exact absurd e (by omega)
  | other _ _ e _ _ => exact absurd rfl e
structure Drained (x y x' y' : Xs) : Prop where
  f1 : Flow x' y'
  f2 : Flow y' x'
  less : load x' y' ≤ load x y ∧ (x.inn ≠ [] → load x' y' + 1 ≤ load x y)
  sent : x'.sent = x.sent ∧ y'.sent = y.sent
  none : x.inn = [] → x' = x ∧ y' = y
theorem drain_one {x y x' y' : Xs} {m : List UInt8} (hs : Safe x y) (hx : x.sent.length ≤ 10000) (hy : y.sent.length ≤ 10000) (f1 : Flow x y) (f2 : Flow y x) (h : OneTo x y 3 m 0 false x' y') : Drained x y x' y' := by
  cases h with
  | sendNo e => exact absurd e (by omega)
  | sendYes e _ _ => exact absurd e (by omega)
  | tick e => exact absurd e (by omega)
  | none _ e => exact ⟨f1, f2, ⟨Nat.le_refl _, fun h => absurd e h⟩, ⟨rfl, rfl⟩, fun _ => ⟨rfl, rfl⟩⟩
  | recv k p l _ hk hp hl =>
    have hk0 : k = 0 := by
      have : roundZ 0 (x.inn.length : Int) = 0 := by unfold roundZ; rw [Int.zero_tmod, if_neg (by omega)]
      omega
    subst hk0
    obtain ⟨q, hq⟩ : ∃ q, x.inn = p :: q := by
      cases hx : x.inn with
      | nil => rw [hx] at hp; cases hp
      | cons u q => rw [hx] at hp; injection hp with hp; exact ⟨q, by rw [hp]⟩
    have hlq : l = q := by rw [hl, if_neg (by simp), hq]; rfl
    subst hlq
    obtain ⟨g1, g2, g3⟩ := drain_recv hs hx hy hq f1 f2
    exact ⟨g1, g2, ⟨by omega, fun _ => g3⟩, ⟨rfl, rfl⟩, fun e => by rw [e] at hq; cases hq⟩
  | lose k p e _ => exact absurd e (by omega)
  | other _ _ _ e _ => exact absurd rfl e
theorem wt_len (q : List (List UInt8)) : q.length ≤ wt q := by unfold wt; omega
theorem load_inn (x y : Xs) : x.inn.length + y.inn.length ≤ load x y := by
  have := wt_len x.inn
  have := wt_len y.inn
  unfold load
  omega
theorem load_swap (x y : Xs) : load x y = load y x := by unfold load; omega
def Done2 (x y : Xs) : Prop := x.got = y.sent ∧ y.got = x.sent ∧ x.ses.wait = [] ∧ y.ses.wait = []
theorem done_of {x y : Xs} (hs : Safe x y) (f1 : Flow x y) (f2 : Flow y x) (h1 : x.inn = []) (h2 : y.inn = []) : Done2 x y := by
  obtain ⟨g1, g2⟩ := flow_end hs.1 f1 h1 h2
  obtain ⟨g3, g4⟩ := flow_end hs.2 f2 h2 h1
  exact ⟨g3, g1, g2, g4⟩
theorem quiet_first {P : Program} {f : FuncId} {args : Array Value} {w : World} {n : Nat} {v : Value}
    (h : Calls P f args (w.drewN n) fun e w' => e = .returned v ∧ ∃ m, w' = (w.drewN n).drewN m) : Calls P f args (w.drewN n) fun e w' => e = .returned v ∧ ∃ m, w' = w.drewN m :=
  h.mono fun _ _ ⟨he, m, hm⟩ => ⟨he, n + m, by rw [hm, World.drewN_drewN]⟩
def newXs : Xs := ⟨newSe 1, [], [], []⟩
theorem safe_new : Safe newXs newXs := by
  have h : Dir newXs newXs := ⟨rfl, Nat.zero_le _, Nat.zero_le _, rfl, ⟨Nat.le_refl _, Nat.le_refl _⟩, rfl, fun _ => rfl, fun _ => rfl, (fun p hp => by cases hp), (fun m hm => by cases hm)⟩
  exact ⟨h, h⟩
def nilSv : Sv := ⟨.slice none 0 0, .slice none 0 0, .slice none 0 0, .slice none 0 0, .slice none 0 0⟩
theorem duos_new {base : Nat} {w : World} {a s r a' s' r' : Nat} (hb : base ≤ w.heap.size) (ha : base ≤ a) (ha' : base ≤ a')
    (c1 : w.heap[a]? = some (.cells #[.pointer (some ⟨s, 0, none⟩), .pointer (some ⟨r, 0, none⟩), .int .i64 1, .slice none 0 0, .slice none 0 0, .slice none 0 0] 40 (0, 0)))
    (c2 : w.heap[a']? = some (.cells #[.pointer (some ⟨s', 0, none⟩), .pointer (some ⟨r', 0, none⟩), .int .i64 1, .slice none 0 0, .slice none 0 0, .slice none 0 0] 40 (0, 0)))
    (h1 : SesAt base w s (.slice none 0 0) [] (newSe 1)) (h2 : RsAt base w r (.slice none 0 0) [] (newSe 1)) (h3 : SesAt base w s' (.slice none 0 0) [] (newSe 1)) (h4 : RsAt base w r' (.slice none 0 0) [] (newSe 1))
    (d : a < a' ∧ a' < s ∧ s < r ∧ r < s' ∧ s' < r') : Duos base w a s r a' s' r' nilSv nilSv newXs newXs := by
  obtain ⟨d1, d2, d3, d4, d5⟩ := d
  refine ⟨⟨fun g => if g = a then 0 else if g = s then 1 else if g = r then 2 else if g = a' then 8 else if g = s' then 9 else if g = r' then 10 else 99, ?_, ?_, .inl (by omega), by omega⟩, safe_new, newSe_ok (by omega) (by omega), newSe_ok (by omega) (by omega)⟩
  · refine ⟨hb, ha, c1, ⟨_, h1⟩, ⟨_, h2⟩, lines_nil _ _, lines_nil _ _, lines_nil _ _, ?_, ?_, ?_, (fun g h => by cases h), (fun g h => by cases h), (fun g h => by cases h), (fun g h => by cases h), (fun g h => by cases h)⟩
    · exact if_pos rfl
    · show (if s = a then 0 else if s = s then 1 else _) = 1
      rw [if_neg (by omega), if_pos rfl]
    · show (if r = a then 0 else if r = s then 1 else if r = r then 2 else _) = 2
      rw [if_neg (by omega), if_neg (by omega), if_pos rfl]
  · refine ⟨hb, ha', c2, ⟨_, h3⟩, ⟨_, h4⟩, lines_nil _ _, lines_nil _ _, lines_nil _ _, ?_, ?_, ?_, (fun g h => by cases h), (fun g h => by cases h), (fun g h => by cases h), (fun g h => by cases h), (fun g h => by cases h)⟩
    · show (if a' = a then 0 else if a' = s then 1 else if a' = r then 2 else if a' = a' then 8 else _) = 8
      rw [if_neg (by omega), if_neg (by omega), if_neg (by omega), if_pos rfl]
    · show (if s' = a then 0 else if s' = s then 1 else if s' = r then 2 else if s' = a' then 8 else if s' = s' then 9 else _) = 8 + 1
      rw [if_neg (by omega), if_neg (by omega), if_neg (by omega), if_neg (by omega), if_pos rfl]
    · show (if r' = a then 0 else if r' = s then 1 else if r' = r then 2 else if r' = a' then 8 else if r' = s' then 9 else if r' = r' then 10 else 99) = 8 + 2
      rw [if_neg (by omega), if_neg (by omega), if_neg (by omega), if_neg (by omega), if_neg (by omega), if_pos rfl]
end Go.Proofs.Ytchhejheobceiaa
