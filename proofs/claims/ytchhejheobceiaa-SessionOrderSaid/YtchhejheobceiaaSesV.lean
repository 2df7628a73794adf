/- Two sides in memory: each has its session, the reference's session, and three rows; what one step turns leaves the rest. No condition. -/
import Derived.Test.YtchhejheobceiaaSesM
import Derived.Test.YtchhejheobceiaaSesU
namespace Go.Proofs.Ytchhejheobceiaa
open Go.RowKit
set_option linter.unusedVariables false

/-- The value reads as bytes that lie below the base, or in a row of bytes. -/
def TxAt (base : Nat) (w : World) (u : Value) (m : List UInt8) : Prop := OwnB w 0 u m ∨ ∃ A c, u = .slice A m.length c ∧ m.length ≤ c ∧ c ≤ maxLen ∧ Reads w base 1 A m.length (bc m)
def Loose (base : Nat) (w : World) (S : Nat → Prop) : Prop := ∀ g, g < w.heap.size → S g → base ≤ g ∧ ∀ c, w.heap[g]? ≠ some (.cells c 5 (0, 0))
theorem TxAt.keep {base : Nat} {w w1 : World} {u : Value} {m : List UInt8} {S : Nat → Prop} (h : TxAt base w u m) (hk : Kept S w w1) (hL : Loose base w S) (hb : base ≤ w.heap.size) : TxAt base w1 u m := by
  rcases h with h | ⟨A, c, h1, h2, h3, h4⟩
  · left
    refine Row.keep h hk (fun g hg hs => ?_)
    obtain ⟨c, hc⟩ := Row.block h hg
    exact (hL g (Row.lt h g hg).2 hs).2 c hc
  · right
    exact ⟨A, c, h1, h2, h3, h4.keep fun p hp => hk.cell (by omega) (fun hs => by have := (hL _ (by omega) hs).1; omega)⟩
theorem TxAt.value {base : Nat} {w : World} {u : Value} {m : List UInt8} (h : TxAt base w u m) (hb : base ≤ w.heap.size) : ∃ A c, u = .slice A m.length c ∧ m.length ≤ c ∧ c ≤ maxLen ∧ Reads w w.heap.size 1 A m.length (bc m) := by
  rcases h with h | ⟨A, c, h1, h2, h3, h4⟩
  · exact Row.form h
  · exact ⟨A, c, h1, h2, h3, h4.more hb⟩
def Txs (base : Nat) (w : World) (us : List Value) (ls : List (List UInt8)) : Prop := us.length = ls.length ∧ ∀ (i : Nat) (u : Value) (m : List UInt8), us[i]? = some u → ls[i]? = some m → TxAt base w u m
def Lines (base : Nat) (w : World) (v : Value) (ls : List (List UInt8)) : Prop := ∃ us, Row w base 30 v ls.length us ∧ Txs base w us ls
section
variable {base : Nat} {w w1 : World} {v : Value} {us us2 : List Value} {ls ls2 : List (List UInt8)} {S : Nat → Prop}
theorem Txs.keep (h : Txs base w us ls) (hk : Kept S w w1) (hL : Loose base w S) (hb : base ≤ w.heap.size) : Txs base w1 us ls := ⟨h.1, fun i u m h1 h2 => (h.2 i u m h1 h2).keep hk hL hb⟩
theorem Txs.of_own {b : Nat} (h : OwnBs w b us ls) : Txs base w us ls := ⟨h.len, fun i u m h1 h2 => .inl ((h.at_ i u m h1 h2).more (Nat.zero_le _))⟩
theorem Txs.app (h : Txs base w us ls) (h2 : Txs base w us2 ls2) : Txs base w (us ++ us2) (ls ++ ls2) := by
  refine ⟨by rw [List.length_append, List.length_append, h.1, h2.1], fun i u m e1 e2 => ?_⟩
  by_cases hi : i < us.length
  · rw [List.getElem?_append_left hi] at e1
    rw [List.getElem?_append_left (by rw [← h.1]; exact hi)] at e2
    exact h.2 i u m e1 e2
  · rw [List.getElem?_append_right (by omega)] at e1
    rw [List.getElem?_append_right (by rw [← h.1]; omega), ← h.1] at e2
    exact h2.2 _ u m e1 e2
theorem Txs.take_ (h : Txs base w us ls) (k : Nat) : Txs base w (us.take k) (ls.take k) := by
  refine ⟨by rw [List.length_take, List.length_take, h.1], fun i u m e1 e2 => ?_⟩
  rw [List.getElem?_take] at e1 e2
  split at e1
  · rename_i hi; rw [if_pos hi] at e2; exact h.2 i u m e1 e2
  · cases e1
theorem Txs.drop_ (h : Txs base w us ls) (k : Nat) : Txs base w (us.drop k) (ls.drop k) := by
  refine ⟨by rw [List.length_drop, List.length_drop, h.1], fun i u m e1 e2 => ?_⟩
  rw [List.getElem?_drop] at e1 e2
  exact h.2 _ u m e1 e2
theorem Txs.one_ (h : Txs base w us ls) (hb : base ≤ w.heap.size) : ∀ u ∈ us, u.oneCell' = true := fun u hu => by
  obtain ⟨i, hi⟩ := List.getElem?_of_mem hu
  have hlt : i < ls.length := by rw [← h.1]; exact (List.getElem?_eq_some_iff.1 hi).1
  obtain ⟨A, c, rfl, _⟩ := (h.2 i u _ hi (List.getElem?_eq_getElem hlt)).value hb
  rfl
/-- The values read as these bytes. -/
def Texts (w : World) (us : List Value) (ls : List (List UInt8)) : Prop := us.length = ls.length ∧ ∀ (i : Nat) (u : Value) (m : List UInt8), us[i]? = some u → ls[i]? = some m → ∃ A c, u = .slice A m.length c ∧ m.length ≤ c ∧ c ≤ maxLen ∧ Reads w w.heap.size 1 A m.length (bc m)
theorem Txs.bytes (h : Txs base w us ls) (hb : base ≤ w.heap.size) : Texts w us ls := ⟨h.1, fun i u m e1 e2 => (h.2 i u m e1 e2).value hb⟩
theorem Lines.keep (h : Lines base w v ls) (hk : Kept S w w1) (hL : Loose base w S) (hb : base ≤ w.heap.size) (hv : ∀ g, v.ownBlock = some g → ¬ S g) : Lines base w1 v ls := by
  obtain ⟨us, h1, h2⟩ := h
  exact ⟨us, h1.keep hk hv, h2.keep hk hL hb⟩
theorem Lines.lt (h : Lines base w v ls) {g : Nat} (hg : v.ownBlock = some g) : base ≤ g ∧ g < w.heap.size := by
  obtain ⟨us, h1, h2⟩ := h
  exact h1.lt g hg
theorem Lines.value (h : Lines base w v ls) : ∃ A c, v = .slice A ls.length c ∧ ls.length ≤ c ∧ c ≤ maxLen := by
  obtain ⟨us, h1, h2⟩ := h
  obtain ⟨A, c, e, h3, h4, _⟩ := h1.form
  exact ⟨A, c, e, h3, h4⟩
theorem lines_nil (base : Nat) (w : World) : Lines base w (.slice none 0 0) [] := ⟨[], Row.nil_ _ _ _, rfl, fun i u m h => by simp at h⟩
theorem Lines.not_byte (h : Lines base w v ls) {g : Nat} (hg : v.ownBlock = some g) (c : Array Value) : w.heap[g]? ≠ some (.cells c 5 (0, 0)) := fun e => by
  obtain ⟨us, h1, h2⟩ := h
  exact row_apart_blk h1 e (by decide) hg
end

structure Sv where
  vs : Value
  vr : Value
  vi : Value
  vt : Value
  vg : Value
def sideCells (s r : Nat) (q : Sv) : List Value := [.pointer (some ⟨s, 0, none⟩), .pointer (some ⟨r, 0, none⟩), .int .i64 1, q.vi, q.vt, q.vg]
structure SideAt (base : Nat) (w : World) (T : Nat → Nat) (t a s r : Nat) (q : Sv) (x : Xs) (ms : Se) : Prop where
  hb : base ≤ w.heap.size
  lo : base ≤ a
  cell : w.heap[a]? = some (.cells #[.pointer (some ⟨s, 0, none⟩), .pointer (some ⟨r, 0, none⟩), .int .i64 1, q.vi, q.vt, q.vg] 40 (0, 0))
  ses : ∃ us, SesAt base w s q.vs us x.ses
  ref : ∃ us, RsAt base w r q.vr us ms
  inn : Lines base w q.vi x.inn
  sent : Lines base w q.vt x.sent
  got : Lines base w q.vg x.got
  ta : T a = t
  ts : T s = t + 1
  tr : T r = t + 2
  tvs : ∀ g, q.vs.ownBlock = some g → T g = t + 3
  tvr : ∀ g, q.vr.ownBlock = some g → T g = t + 4
  tvi : ∀ g, q.vi.ownBlock = some g → T g = t + 5
  tvt : ∀ g, q.vt.ownBlock = some g → T g = t + 6
  tvg : ∀ g, q.vg.ownBlock = some g → T g = t + 7
/-- New blocks have tag k. -/
def retag (T : Nat → Nat) (n k : Nat) (g : Nat) : Nat := if g < n then T g else k
theorem retag_lt {T : Nat → Nat} {n k g : Nat} (h : g < n) : retag T n k g = T g := if_pos h
theorem retag_ge {T : Nat → Nat} {n k g : Nat} (h : n ≤ g) : retag T n k g = k := if_neg (by omega)
section
variable {base : Nat} {w w1 : World} {T T' : Nat → Nat} {t a s r : Nat} {q : Sv} {x : Xs} {ms : Se} {S : Nat → Prop}
theorem SideAt.a_lt (h : SideAt base w T t a s r q x ms) : a < w.heap.size := (Array.getElem?_eq_some_iff.1 h.cell).1
theorem SideAt.s_lt (h : SideAt base w T t a s r q x ms) : s < w.heap.size := by obtain ⟨us, h⟩ := h.ses; exact h.lt
theorem SideAt.r_lt (h : SideAt base w T t a s r q x ms) : r < w.heap.size := by obtain ⟨us, h⟩ := h.ref; exact h.lt
theorem SideAt.vs_lt (h : SideAt base w T t a s r q x ms) {g : Nat} (hg : q.vs.ownBlock = some g) : base ≤ g ∧ g < w.heap.size := by obtain ⟨us, h⟩ := h.ses; exact h.row.lt g hg
theorem SideAt.vr_lt (h : SideAt base w T t a s r q x ms) {g : Nat} (hg : q.vr.ownBlock = some g) : base ≤ g ∧ g < w.heap.size := by obtain ⟨us, h⟩ := h.ref; exact h.row.lt g hg
theorem SideAt.range (h : SideAt base w T t a s r q x ms) : w.rangeAt a 0 (sideCells s r q) := fun j v hv => by
  rw [Nat.zero_add, cell_of_row w a j _ _ (0, 0) h.cell]
  simpa [sideCells] using hv
theorem SideAt.free (h : SideAt base w T t a s r q x ms) (j : Nat) : w.frozen? ⟨a, j, none⟩ = false := by simp [World.frozen?, h.cell]
/-- All of it stays. -/
theorem SideAt.away (h : SideAt base w T t a s r q x ms) (hk : Kept S w w1) (hL : Loose base w S) (hS : ∀ g, g < w.heap.size → S g → T g < t ∨ t + 8 ≤ T g) (hT : ∀ g, g < w.heap.size → T' g = T g) : SideAt base w1 T' t a s r q x ms := by
  have av : ∀ g i, i < 8 → g < w.heap.size → T g = t + i → ¬ S g := fun g i hi hg hg2 hs => by have := hS g hg hs; omega
  have hby : ∀ g c, w.heap[g]? = some (.cells c 5 (0, 0)) → ¬ S g := fun g c hc hs => (hL g (Array.getElem?_eq_some_iff.1 hc).1 hs).2 c hc
  obtain ⟨us1, h1⟩ := h.ses
  obtain ⟨us2, h2⟩ := h.ref
  exact ⟨Nat.le_trans h.hb hk.size, h.lo, by rw [hk.block a h.a_lt (av a 0 (by omega) h.a_lt h.ta)]; exact h.cell,
    ⟨us1, h1.keep hk (av s 1 (by omega) h.s_lt h.ts) (fun g hg => av g 3 (by omega) (h.vs_lt hg).2 (h.tvs g hg)) hby⟩,
    ⟨us2, h2.keep hk (av r 2 (by omega) h.r_lt h.tr) (fun g hg => av g 4 (by omega) (h.vr_lt hg).2 (h.tvr g hg)) hby⟩,
    h.inn.keep hk hL h.hb (fun g hg => av g 5 (by omega) (h.inn.lt hg).2 (h.tvi g hg)), h.sent.keep hk hL h.hb (fun g hg => av g 6 (by omega) (h.sent.lt hg).2 (h.tvt g hg)), h.got.keep hk hL h.hb (fun g hg => av g 7 (by omega) (h.got.lt hg).2 (h.tvg g hg)),
    (hT a h.a_lt).trans h.ta, (hT s h.s_lt).trans h.ts, (hT r h.r_lt).trans h.tr, fun g hg => (hT g (h.vs_lt hg).2).trans (h.tvs g hg), fun g hg => (hT g (h.vr_lt hg).2).trans (h.tvr g hg), fun g hg => (hT g (h.inn.lt hg).2).trans (h.tvi g hg), fun g hg => (hT g (h.sent.lt hg).2).trans (h.tvt g hg), fun g hg => (hT g (h.got.lt hg).2).trans (h.tvg g hg)⟩
theorem loose_no (base : Nat) (w : World) : Loose base w (fun _ => False) := fun _ _ e => e.elim
theorem SideAt.grow (h : SideAt base w T t a s r q x ms) (hb : Below w.heap.size w w1) (k : Nat) : SideAt base w1 (retag T w.heap.size k) t a s r q x ms :=
  h.away (S := fun _ => False) (.of_below hb) (loose_no _ _) (fun _ _ e => e.elim) (fun g hg => retag_lt hg)
theorem SideAt.same (h : SideAt base w T t a s r q x ms) (hb : Below w.heap.size w w1) : SideAt base w1 T t a s r q x ms :=
  h.away (S := fun _ => False) (.of_below hb) (loose_no _ _) (fun _ _ e => e.elim) (fun g hg => rfl)
theorem SideAt.loose_ses (h : SideAt base w T t a s r q x ms) : Loose base w (foot s q.vs) := fun g hg hf => by
  obtain ⟨us, h1⟩ := h.ses
  exact ⟨Or.elim hf (fun e => by rw [e]; exact h1.lo) (fun e => (h1.row.lt g e).1), fun c hc => h1.not_byte hc hf⟩
theorem SideAt.loose_ref (h : SideAt base w T t a s r q x ms) : Loose base w (foot r q.vr) := fun g hg hf => by
  obtain ⟨us, h1⟩ := h.ref
  exact ⟨Or.elim hf (fun e => by rw [e]; exact h1.lo) (fun e => (h1.row.lt g e).1), fun c hc => h1.not_byte hc hf⟩
theorem SideAt.tag_ses (h : SideAt base w T t a s r q x ms) {g : Nat} (hf : foot s q.vs g) : T g = t + 1 ∨ T g = t + 3 := Or.elim hf (fun e => .inl (by rw [e]; exact h.ts)) (fun e => .inr (h.tvs g e))
theorem SideAt.tag_ref (h : SideAt base w T t a s r q x ms) {g : Nat} (hf : foot r q.vr g) : T g = t + 2 ∨ T g = t + 4 := Or.elim hf (fun e => .inl (by rw [e]; exact h.tr)) (fun e => .inr (h.tvr g e))
/-- The session turns. -/
theorem SideAt.turn_ses (h : SideAt base w T t a s r q x ms) {s1 : Se} (hn : SesNow base w s q.vs s1 w1) : ∃ v, SideAt base w1 (retag T w.heap.size (t + 3)) t a s r { q with vs := v } { x with ses := s1 } ms := by
  obtain ⟨v', vs', h1, hk, hg⟩ := hn
  have av : ∀ g i, i ≠ 1 → i ≠ 3 → T g = t + i → ¬ foot s q.vs g := fun g i h1 h3 hg2 hs => by have := h.tag_ses hs; omega
  have hby : ∀ g c, w.heap[g]? = some (.cells c 5 (0, 0)) → ¬ foot s q.vs g := fun g c hc hs => (h.loose_ses g (Array.getElem?_eq_some_iff.1 hc).1 hs).2 c hc
  obtain ⟨us2, h2⟩ := h.ref
  refine ⟨v', Nat.le_trans h.hb hk.size, h.lo, by rw [hk.block a h.a_lt (av a 0 (by omega) (by omega) h.ta)]; exact h.cell, ⟨vs', h1⟩,
    ⟨us2, h2.keep hk (av r 2 (by omega) (by omega) h.tr) (fun g hg => av g 4 (by omega) (by omega) (h.tvr g hg)) hby⟩,
    h.inn.keep hk h.loose_ses h.hb (fun g hg => av g 5 (by omega) (by omega) (h.tvi g hg)), h.sent.keep hk h.loose_ses h.hb (fun g hg => av g 6 (by omega) (by omega) (h.tvt g hg)), h.got.keep hk h.loose_ses h.hb (fun g hg => av g 7 (by omega) (by omega) (h.tvg g hg)),
    (retag_lt h.a_lt).trans h.ta, (retag_lt h.s_lt).trans h.ts, (retag_lt h.r_lt).trans h.tr, fun g hv => ?_, fun g hg => (retag_lt (h.vr_lt hg).2).trans (h.tvr g hg), fun g hg => (retag_lt (h.inn.lt hg).2).trans (h.tvi g hg), fun g hg => (retag_lt (h.sent.lt hg).2).trans (h.tvt g hg), fun g hg => (retag_lt (h.got.lt hg).2).trans (h.tvg g hg)⟩
  by_cases hlt : g < w.heap.size
  · rw [retag_lt hlt]
    rcases hg g hv with e | e
    · exact h.tvs g e
    · omega
  · exact retag_ge (by omega)
/-- The reference's session turns. -/
theorem SideAt.turn_ref (h : SideAt base w T t a s r q x ms) {s1 : Se} (hn : RsNow base w r q.vr s1 w1) : ∃ v, SideAt base w1 (retag T w.heap.size (t + 4)) t a s r { q with vr := v } x s1 := by
  obtain ⟨v', vs', h1, hk, hg⟩ := hn
  have av : ∀ g i, i ≠ 2 → i ≠ 4 → T g = t + i → ¬ foot r q.vr g := fun g i h1 h3 hg2 hs => by have := h.tag_ref hs; omega
  have hby : ∀ g c, w.heap[g]? = some (.cells c 5 (0, 0)) → ¬ foot r q.vr g := fun g c hc hs => (h.loose_ref g (Array.getElem?_eq_some_iff.1 hc).1 hs).2 c hc
  obtain ⟨us2, h2⟩ := h.ses
  refine ⟨v', Nat.le_trans h.hb hk.size, h.lo, by rw [hk.block a h.a_lt (av a 0 (by omega) (by omega) h.ta)]; exact h.cell, 
    ⟨us2, h2.keep hk (av s 1 (by omega) (by omega) h.ts) (fun g hg => av g 3 (by omega) (by omega) (h.tvs g hg)) hby⟩, ⟨vs', h1⟩,
    h.inn.keep hk h.loose_ref h.hb (fun g hg => av g 5 (by omega) (by omega) (h.tvi g hg)), h.sent.keep hk h.loose_ref h.hb (fun g hg => av g 6 (by omega) (by omega) (h.tvt g hg)), h.got.keep hk h.loose_ref h.hb (fun g hg => av g 7 (by omega) (by omega) (h.tvg g hg)),
    (retag_lt h.a_lt).trans h.ta, (retag_lt h.s_lt).trans h.ts, (retag_lt h.r_lt).trans h.tr, fun g hg => (retag_lt (h.vs_lt hg).2).trans (h.tvs g hg), fun g hv => ?_, fun g hg => (retag_lt (h.inn.lt hg).2).trans (h.tvi g hg), fun g hg => (retag_lt (h.sent.lt hg).2).trans (h.tvt g hg), fun g hg => (retag_lt (h.got.lt hg).2).trans (h.tvg g hg)⟩
  by_cases hlt : g < w.heap.size
  · rw [retag_lt hlt]
    rcases hg g hv with e | e
    · exact h.tvr g e
    · omega
  · exact retag_ge (by omega)
/-- A row of the side's is grown or changed, then laid into its cell: what is kept meanwhile. -/
theorem SideAt.loose_row (h : SideAt base w T t a s r q x ms) {v : Value} {ls : List (List UInt8)} (hv : Lines base w v ls) : Loose base w (fun k => v.ownBlock = some k) := fun g hg hf => ⟨(hv.lt hf).1, fun c hc => hv.not_byte hf c hc⟩
theorem SideAt.loose_a (h : SideAt base w T t a s r q x ms) : Loose base w (fun k => k = a) := fun g hg hf => by
  refine ⟨by rw [hf]; exact h.lo, fun c hc => ?_⟩
  rw [hf, h.cell] at hc
  injection hc with hc
  injection hc with _ hc
  cases hc
/-- The row of what is on its way turns in memory (w to w1), then the side's cell is set. -/
theorem SideAt.turn_inn (h : SideAt base w T t a s r q x ms) {u : Value} {l : List (List UInt8)} (hk : Kept S w w1) (hL : Loose base w S) (hS : ∀ g, g < w.heap.size → S g → T g = t + 5) (hl : Lines base w1 u l) (hu : ∀ g, u.ownBlock = some g → T g = t + 5 ∨ w.heap.size ≤ g) :
    SideAt base (w1.setCell ⟨a, 3, none⟩ u) (retag T w.heap.size (t + 5)) t a s r { q with vi := u } { x with inn := l } ms := by
  have av : ∀ g i, i ≠ 5 → g < w.heap.size → T g = t + i → ¬ S g := fun g i h1 hg hg2 hs => by have := hS g hg hs; omega
  have hby : ∀ g c, w.heap[g]? = some (.cells c 5 (0, 0)) → ¬ S g := fun g c hc hs => (hL g (Array.getElem?_eq_some_iff.1 hc).1 hs).2 c hc
  have cellA : w1.heap[a]? = some (.cells #[.pointer (some ⟨s, 0, none⟩), .pointer (some ⟨r, 0, none⟩), .int .i64 1, q.vi, q.vt, q.vg] 40 (0, 0)) := by rw [hk.block a h.a_lt (av a 0 (by omega) h.a_lt h.ta)]; exact h.cell
  have KS : Kept (fun k => k = a) w1 (w1.setCell ⟨a, 3, none⟩ u) := (Kept.refl (fun k => k = a) w1).setCell (a := ⟨a, 3, none⟩) (fun _ => rfl) _
  have hLa : Loose base w1 (fun k => k = a) := fun g hg hf => by
    refine ⟨by rw [hf]; exact h.lo, fun c hc => ?_⟩
    rw [hf, cellA] at hc
    injection hc with hc
    injection hc with _ hc
    cases hc
  have hby1 : ∀ g c, w1.heap[g]? = some (.cells c 5 (0, 0)) → ¬ g = a := fun g c hc e => (hLa g (Array.getElem?_eq_some_iff.1 hc).1 e).2 c hc
  have hb1 := Nat.le_trans h.hb hk.size
  have na : ∀ g i, i ≠ 0 → T g = t + i → ¬ g = a := fun g i hi hg e => by rw [e, h.ta] at hg; omega
  obtain ⟨us1, h1⟩ := h.ses
  obtain ⟨us2, h2⟩ := h.ref
  refine ⟨by rw [World.size_setCell]; exact hb1, h.lo, heap_setCell_at cellA 3 u,
    ⟨us1, (h1.keep hk (av s 1 (by omega) h.s_lt h.ts) (fun g hg => av g 3 (by omega) (h.vs_lt hg).2 (h.tvs g hg)) hby).keep KS (na s 1 (by omega) h.ts) (fun g hg => na g 3 (by omega) (h.tvs g hg)) hby1⟩,
    ⟨us2, (h2.keep hk (av r 2 (by omega) h.r_lt h.tr) (fun g hg => av g 4 (by omega) (h.vr_lt hg).2 (h.tvr g hg)) hby).keep KS (na r 2 (by omega) h.tr) (fun g hg => na g 4 (by omega) (h.tvr g hg)) hby1⟩,
    hl.keep KS hLa hb1 (fun g hg e => ?_), (h.sent.keep hk hL h.hb (fun g hg => av g 6 (by omega) (h.sent.lt hg).2 (h.tvt g hg))).keep KS hLa hb1 (fun g hg => na g 6 (by omega) (h.tvt g hg)), (h.got.keep hk hL h.hb (fun g hg => av g 7 (by omega) (h.got.lt hg).2 (h.tvg g hg))).keep KS hLa hb1 (fun g hg => na g 7 (by omega) (h.tvg g hg)),
    (retag_lt h.a_lt).trans h.ta, (retag_lt h.s_lt).trans h.ts, (retag_lt h.r_lt).trans h.tr, fun g hg => (retag_lt (h.vs_lt hg).2).trans (h.tvs g hg), fun g hg => (retag_lt (h.vr_lt hg).2).trans (h.tvr g hg), fun g hg => ?_, fun g hg => (retag_lt (h.sent.lt hg).2).trans (h.tvt g hg), fun g hg => (retag_lt (h.got.lt hg).2).trans (h.tvg g hg)⟩
  · rcases hu g hg with e1 | e1
    · rw [e, h.ta] at e1; omega
    · have := h.a_lt; omega
  · by_cases hlt : g < w.heap.size
    · rw [retag_lt hlt]
      rcases hu g hg with e | e
      · exact e
      · omega
    · exact retag_ge (by omega)
theorem SideAt.turn_sent (h : SideAt base w T t a s r q x ms) {u : Value} {l : List (List UInt8)} (hk : Kept S w w1) (hL : Loose base w S) (hS : ∀ g, g < w.heap.size → S g → T g = t + 6) (hl : Lines base w1 u l) (hu : ∀ g, u.ownBlock = some g → T g = t + 6 ∨ w.heap.size ≤ g) :
    SideAt base (w1.setCell ⟨a, 4, none⟩ u) (retag T w.heap.size (t + 6)) t a s r { q with vt := u } { x with sent := l } ms := by
  have av : ∀ g i, i ≠ 6 → g < w.heap.size → T g = t + i → ¬ S g := fun g i h1 hg hg2 hs => by have := hS g hg hs; omega
  have hby : ∀ g c, w.heap[g]? = some (.cells c 5 (0, 0)) → ¬ S g := fun g c hc hs => (hL g (Array.getElem?_eq_some_iff.1 hc).1 hs).2 c hc
  have cellA : w1.heap[a]? = some (.cells #[.pointer (some ⟨s, 0, none⟩), .pointer (some ⟨r, 0, none⟩), .int .i64 1, q.vi, q.vt, q.vg] 40 (0, 0)) := by rw [hk.block a h.a_lt (av a 0 (by omega) h.a_lt h.ta)]; exact h.cell
  have KS : Kept (fun k => k = a) w1 (w1.setCell ⟨a, 4, none⟩ u) := (Kept.refl (fun k => k = a) w1).setCell (a := ⟨a, 4, none⟩) (fun _ => rfl) _
  have hLa : Loose base w1 (fun k => k = a) := fun g hg hf => by
    refine ⟨by rw [hf]; exact h.lo, fun c hc => ?_⟩
    rw [hf, cellA] at hc
    injection hc with hc
    injection hc with _ hc
    cases hc
  have hby1 : ∀ g c, w1.heap[g]? = some (.cells c 5 (0, 0)) → ¬ g = a := fun g c hc e => (hLa g (Array.getElem?_eq_some_iff.1 hc).1 e).2 c hc
  have hb1 := Nat.le_trans h.hb hk.size
  have na : ∀ g i, i ≠ 0 → T g = t + i → ¬ g = a := fun g i hi hg e => by rw [e, h.ta] at hg; omega
  obtain ⟨us1, h1⟩ := h.ses
  obtain ⟨us2, h2⟩ := h.ref
  refine ⟨by rw [World.size_setCell]; exact hb1, h.lo, heap_setCell_at cellA 4 u,
    ⟨us1, (h1.keep hk (av s 1 (by omega) h.s_lt h.ts) (fun g hg => av g 3 (by omega) (h.vs_lt hg).2 (h.tvs g hg)) hby).keep KS (na s 1 (by omega) h.ts) (fun g hg => na g 3 (by omega) (h.tvs g hg)) hby1⟩,
    ⟨us2, (h2.keep hk (av r 2 (by omega) h.r_lt h.tr) (fun g hg => av g 4 (by omega) (h.vr_lt hg).2 (h.tvr g hg)) hby).keep KS (na r 2 (by omega) h.tr) (fun g hg => na g 4 (by omega) (h.tvr g hg)) hby1⟩,
    (h.inn.keep hk hL h.hb (fun g hg => av g 5 (by omega) (h.inn.lt hg).2 (h.tvi g hg))).keep KS hLa hb1 (fun g hg => na g 5 (by omega) (h.tvi g hg)), hl.keep KS hLa hb1 (fun g hg e => ?_), (h.got.keep hk hL h.hb (fun g hg => av g 7 (by omega) (h.got.lt hg).2 (h.tvg g hg))).keep KS hLa hb1 (fun g hg => na g 7 (by omega) (h.tvg g hg)),
    (retag_lt h.a_lt).trans h.ta, (retag_lt h.s_lt).trans h.ts, (retag_lt h.r_lt).trans h.tr, fun g hg => (retag_lt (h.vs_lt hg).2).trans (h.tvs g hg), fun g hg => (retag_lt (h.vr_lt hg).2).trans (h.tvr g hg), fun g hg => (retag_lt (h.inn.lt hg).2).trans (h.tvi g hg), fun g hg => ?_, fun g hg => (retag_lt (h.got.lt hg).2).trans (h.tvg g hg)⟩
  · rcases hu g hg with e1 | e1
    · rw [e, h.ta] at e1; omega
    · have := h.a_lt; omega
  · by_cases hlt : g < w.heap.size
    · rw [retag_lt hlt]
      rcases hu g hg with e | e
      · exact e
      · omega
    · exact retag_ge (by omega)
theorem SideAt.turn_got (h : SideAt base w T t a s r q x ms) {u : Value} {l : List (List UInt8)} (hk : Kept S w w1) (hL : Loose base w S) (hS : ∀ g, g < w.heap.size → S g → T g = t + 7) (hl : Lines base w1 u l) (hu : ∀ g, u.ownBlock = some g → T g = t + 7 ∨ w.heap.size ≤ g) :
    SideAt base (w1.setCell ⟨a, 5, none⟩ u) (retag T w.heap.size (t + 7)) t a s r { q with vg := u } { x with got := l } ms := by
  have av : ∀ g i, i ≠ 7 → g < w.heap.size → T g = t + i → ¬ S g := fun g i h1 hg hg2 hs => by have := hS g hg hs; omega
  have hby : ∀ g c, w.heap[g]? = some (.cells c 5 (0, 0)) → ¬ S g := fun g c hc hs => (hL g (Array.getElem?_eq_some_iff.1 hc).1 hs).2 c hc
  have cellA : w1.heap[a]? = some (.cells #[.pointer (some ⟨s, 0, none⟩), .pointer (some ⟨r, 0, none⟩), .int .i64 1, q.vi, q.vt, q.vg] 40 (0, 0)) := by rw [hk.block a h.a_lt (av a 0 (by omega) h.a_lt h.ta)]; exact h.cell
  have KS : Kept (fun k => k = a) w1 (w1.setCell ⟨a, 5, none⟩ u) := (Kept.refl (fun k => k = a) w1).setCell (a := ⟨a, 5, none⟩) (fun _ => rfl) _
  have hLa : Loose base w1 (fun k => k = a) := fun g hg hf => by
    refine ⟨by rw [hf]; exact h.lo, fun c hc => ?_⟩
    rw [hf, cellA] at hc
    injection hc with hc
    injection hc with _ hc
    cases hc
  have hby1 : ∀ g c, w1.heap[g]? = some (.cells c 5 (0, 0)) → ¬ g = a := fun g c hc e => (hLa g (Array.getElem?_eq_some_iff.1 hc).1 e).2 c hc
  have hb1 := Nat.le_trans h.hb hk.size
  have na : ∀ g i, i ≠ 0 → T g = t + i → ¬ g = a := fun g i hi hg e => by rw [e, h.ta] at hg; omega
  obtain ⟨us1, h1⟩ := h.ses
  obtain ⟨us2, h2⟩ := h.ref
  refine ⟨by rw [World.size_setCell]; exact hb1, h.lo, heap_setCell_at cellA 5 u,
    ⟨us1, (h1.keep hk (av s 1 (by omega) h.s_lt h.ts) (fun g hg => av g 3 (by omega) (h.vs_lt hg).2 (h.tvs g hg)) hby).keep KS (na s 1 (by omega) h.ts) (fun g hg => na g 3 (by omega) (h.tvs g hg)) hby1⟩,
    ⟨us2, (h2.keep hk (av r 2 (by omega) h.r_lt h.tr) (fun g hg => av g 4 (by omega) (h.vr_lt hg).2 (h.tvr g hg)) hby).keep KS (na r 2 (by omega) h.tr) (fun g hg => na g 4 (by omega) (h.tvr g hg)) hby1⟩,
    (h.inn.keep hk hL h.hb (fun g hg => av g 5 (by omega) (h.inn.lt hg).2 (h.tvi g hg))).keep KS hLa hb1 (fun g hg => na g 5 (by omega) (h.tvi g hg)), (h.sent.keep hk hL h.hb (fun g hg => av g 6 (by omega) (h.sent.lt hg).2 (h.tvt g hg))).keep KS hLa hb1 (fun g hg => na g 6 (by omega) (h.tvt g hg)), hl.keep KS hLa hb1 (fun g hg e => ?_),
    (retag_lt h.a_lt).trans h.ta, (retag_lt h.s_lt).trans h.ts, (retag_lt h.r_lt).trans h.tr, fun g hg => (retag_lt (h.vs_lt hg).2).trans (h.tvs g hg), fun g hg => (retag_lt (h.vr_lt hg).2).trans (h.tvr g hg), fun g hg => (retag_lt (h.inn.lt hg).2).trans (h.tvi g hg), fun g hg => (retag_lt (h.sent.lt hg).2).trans (h.tvt g hg), fun g hg => ?_⟩
  · rcases hu g hg with e1 | e1
    · rw [e, h.ta] at e1; omega
    · have := h.a_lt; omega
  · by_cases hlt : g < w.heap.size
    · rw [retag_lt hlt]
      rcases hu g hg with e | e
      · exact e
      · omega
    · exact retag_ge (by omega)
end
end Go.Proofs.Ytchhejheobceiaa
