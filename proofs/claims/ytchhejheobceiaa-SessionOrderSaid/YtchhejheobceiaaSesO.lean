/- Both sides together; what a step that turns one row or one session leaves. No condition. -/
import Derived.Test.YtchhejheobceiaaSesN
namespace Go.Proofs.Ytchhejheobceiaa
open Go.RowKit
set_option linter.unusedVariables false

theorem TxAt.reads_keep {base : Nat} {w W : World} {A : Option Addr} {n c : Nat} {m : List UInt8} {S : Nat → Prop} (h : TxAt base w (.slice A n c) m) (hk : Kept S w W) (hL : Loose base w S) (hb : base ≤ w.heap.size) : Reads W w.heap.size 1 A n (bc m) := by
  rcases h with h | ⟨A', c', h1, h2, h3, h4⟩
  · obtain ⟨h1, ⟨h2, h3⟩ | ⟨g, off, cap, cur, h2, hB, hg, hnc, hm, hs, hx⟩⟩ := h
    · injection h2 with h2 h4 h5
      subst h4
      exact ⟨by omega, fun h0 => absurd h0 (by omega)⟩
    · injection h2 with h2 h4 h5
      subst h2 h4
      have hlt := (Array.getElem?_eq_some_iff.1 hg).1
      have hW : W.heap[g]? = some (.cells cur 5 (0, 0)) := by rw [hk.block g hlt (fun hs => (hL g hlt hs).2 _ hg)]; exact hg
      refine ⟨by omega, fun _ => ⟨_, rfl, hlt, fun j u hu => ?_⟩⟩
      rw [Addr.add_mid, cell_of_row W g _ cur _ (0, 0) hW]
      exact hx j u hu
  · injection h1 with h1 h5 h6
    subst h1 h5
    exact (h4.keep fun p hp => hk.cell (by omega) (fun hs => by have := (hL _ (by omega) hs).1; omega)).more hb
/-- From w to w1 only blocks with such tags have turned. -/
def Moved (base : Nat) (w w1 : World) (T : Nat → Nat) (K : Nat → Prop) : Prop := ∃ S, Kept S w w1 ∧ Loose base w S ∧ ∀ g, g < w.heap.size → S g → K (T g)
section
variable {base : Nat} {w w1 w2 : World} {T : Nat → Nat} {K : Nat → Prop}
theorem Moved.below (h : Moved base w w1 T K) (hb : base ≤ w.heap.size) : Below base w w1 := by
  obtain ⟨S, hk, hL, _⟩ := h
  exact (hk.mono (S' := fun b => S b ∧ b < w.heap.size) (fun b h1 h2 => ⟨h2, h1⟩)).below hb (fun b hs => (hL b hs.2 hs.1).1)
theorem Moved.size (h : Moved base w w1 T K) : w.heap.size ≤ w1.heap.size := by obtain ⟨S, hk, _⟩ := h; exact hk.size
theorem Moved.range (h : Moved base w w1 T K) {b : Nat} {cs : List Value} (hr : w.rangeAt b 0 cs) (hb : b < w.heap.size) (hT : ¬ K (T b)) : w1.rangeAt b 0 cs := by
  obtain ⟨S, hk, hL, hS⟩ := h
  exact kept_range hk hr hb (fun hs => hT (hS b hb hs))
theorem Moved.txt (h : Moved base w w1 T K) {u : Value} {m : List UInt8} (ht : TxAt base w u m) (hb : base ≤ w.heap.size) : TxAt base w1 u m := by
  obtain ⟨S, hk, hL, hS⟩ := h
  exact ht.keep hk hL hb
theorem Moved.rows (h : Moved base w w1 T K) {lo : Nat} {u : Value} {ls : List (List UInt8)} (hr : RowsAt w lo u ls) (hT : ∀ k, lo ≤ k → k < w.heap.size → ¬ K (T k)) : RowsAt w1 lo u ls := by
  obtain ⟨S, hk, hL, hS⟩ := h
  exact hr.keep hk (fun k h1 h2 hs => hT k h1 h2 (hS k h2 hs))
theorem Moved.of_below (hb : Below w.heap.size w w1) : Moved base w w1 T (fun _ => False) := ⟨fun _ => False, .of_below hb, loose_no _ _, fun _ _ e => e⟩
end
structure Duo (base : Nat) (w : World) (T : Nat → Nat) (t t' a s r : Nat) (q : Sv) (x : Xs) (ms : Se) (a' s' r' : Nat) (q' : Sv) (y : Xs) (ns : Se) : Prop where
  x : SideAt base w T t a s r q x ms
  y : SideAt base w T t' a' s' r' q' y ns
  tt : t + 8 ≤ t' ∨ t' + 8 ≤ t
  hi : t + 8 ≤ 50 ∧ t' + 8 ≤ 50
section
variable {base : Nat} {w w1 : World} {T : Nat → Nat} {t t' a s r : Nat} {q : Sv} {x : Xs} {ms : Se} {a' s' r' : Nat} {q' : Sv} {y : Xs} {ns : Se}
theorem SideAt.cells_ (h : SideAt base w T t a s r q x ms) : w.cell? ⟨a, 0, none⟩ = some (.pointer (some ⟨s, 0, none⟩)) ∧ w.cell? ⟨a, 1, none⟩ = some (.pointer (some ⟨r, 0, none⟩)) ∧ w.cell? ⟨a, 3, none⟩ = some q.vi ∧ w.cell? ⟨a, 4, none⟩ = some q.vt ∧ w.cell? ⟨a, 5, none⟩ = some q.vg :=
  ⟨h.range 0 _ rfl, h.range 1 _ rfl, h.range 3 _ rfl, h.range 4 _ rfl, h.range 5 _ rfl⟩
theorem Duo.swap (D : Duo base w T t t' a s r q x ms a' s' r' q' y ns) : Duo base w T t' t a' s' r' q' y ns a s r q x ms := ⟨D.y, D.x, D.tt.symm, D.hi.symm⟩
theorem Duo.same (D : Duo base w T t t' a s r q x ms a' s' r' q' y ns) (hb : Below w.heap.size w w1) : Duo base w1 T t t' a s r q x ms a' s' r' q' y ns := ⟨D.x.same hb, D.y.same hb, D.tt, D.hi⟩
theorem Duo.grow (D : Duo base w T t t' a s r q x ms a' s' r' q' y ns) (hb : Below w.heap.size w w1) (k : Nat) : Duo base w1 (retag T w.heap.size k) t t' a s r q x ms a' s' r' q' y ns := ⟨D.x.grow hb k, D.y.grow hb k, D.tt, D.hi⟩
theorem Duo.ses (D : Duo base w T t t' a s r q x ms a' s' r' q' y ns) {s1 : Se} (hn : SesNow base w s q.vs s1 w1) : (∃ v, Duo base w1 (retag T w.heap.size (t + 3)) t t' a s r { q with vs := v } { x with ses := s1 } ms a' s' r' q' y ns) ∧ Moved base w w1 T (fun n => n = t + 1 ∨ n = t + 3) := by
  obtain ⟨v, hv⟩ := D.x.turn_ses hn
  have hn' := hn
  obtain ⟨_, _, _, hk, _⟩ := hn'
  exact ⟨⟨v, hv, D.y.away hk D.x.loose_ses (fun g hg hs => by have := D.x.tag_ses hs; have := D.tt; omega) (fun g hg => retag_lt hg), D.tt, D.hi⟩, _, hk, D.x.loose_ses, fun g hg hs => D.x.tag_ses hs⟩
theorem Duo.ref (D : Duo base w T t t' a s r q x ms a' s' r' q' y ns) {s1 : Se} (hn : RsNow base w r q.vr s1 w1) : (∃ v, Duo base w1 (retag T w.heap.size (t + 4)) t t' a s r { q with vr := v } x s1 a' s' r' q' y ns) ∧ Moved base w w1 T (fun n => n = t + 2 ∨ n = t + 4) := by
  obtain ⟨v, hv⟩ := D.x.turn_ref hn
  have hn' := hn
  obtain ⟨_, _, _, hk, _⟩ := hn'
  exact ⟨⟨v, hv, D.y.away hk D.x.loose_ref (fun g hg hs => by have := D.x.tag_ref hs; have := D.tt; omega) (fun g hg => retag_lt hg), D.tt, D.hi⟩, _, hk, D.x.loose_ref, fun g hg hs => D.x.tag_ref hs⟩
/-- What turns when a row is grown in memory and laid into cell o of block a. -/
theorem moved_cell (h : SideAt base w T t a s r q x ms) {S : Nat → Prop} {i o : Nat} (hk : Kept S w w1) (hL : Loose base w S) (hS : ∀ g, g < w.heap.size → S g → T g = t + i) (u : Value) : Moved base w (w1.setCell ⟨a, o, none⟩ u) T (fun n => n = t ∨ n = t + i) := by
  refine ⟨fun g => S g ∨ g = a, (hk.mono (fun _ _ e => .inl e)).setCell (a := ⟨a, o, none⟩) (fun _ => .inr rfl) _, fun g hg hs => ?_, fun g hg hs => ?_⟩
  · rcases hs with hs | hs
    · exact hL g hg hs
    · exact h.loose_a g hg hs
  · rcases hs with hs | hs
    · exact .inr (hS g hg hs)
    · left; rw [hs]; exact h.ta
theorem Duo.inn (D : Duo base w T t t' a s r q x ms a' s' r' q' y ns) {S : Nat → Prop} {u : Value} {l : List (List UInt8)} (hk : Kept S w w1) (hL : Loose base w S) (hS : ∀ g, g < w.heap.size → S g → T g = t + 5) (hl : Lines base w1 u l) (hu : ∀ g, u.ownBlock = some g → T g = t + 5 ∨ w.heap.size ≤ g) :
    Duo base (w1.setCell ⟨a, 3, none⟩ u) (retag T w.heap.size (t + 5)) t t' a s r { q with vi := u } { x with inn := l } ms a' s' r' q' y ns ∧ Moved base w (w1.setCell ⟨a, 3, none⟩ u) T (fun n => n = t ∨ n = t + 5) := by
  have hm := moved_cell (o := 3) D.x hk hL hS u
  refine ⟨⟨D.x.turn_inn hk hL hS hl hu, ?_, D.tt, D.hi⟩, hm⟩
  obtain ⟨S', k1, k2, k3⟩ := hm
  exact D.y.away k1 k2 (fun g hg hs => by have := k3 g hg hs; have := D.tt; omega) (fun g hg => retag_lt hg)
theorem Duo.sent (D : Duo base w T t t' a s r q x ms a' s' r' q' y ns) {S : Nat → Prop} {u : Value} {l : List (List UInt8)} (hk : Kept S w w1) (hL : Loose base w S) (hS : ∀ g, g < w.heap.size → S g → T g = t + 6) (hl : Lines base w1 u l) (hu : ∀ g, u.ownBlock = some g → T g = t + 6 ∨ w.heap.size ≤ g) :
    Duo base (w1.setCell ⟨a, 4, none⟩ u) (retag T w.heap.size (t + 6)) t t' a s r { q with vt := u } { x with sent := l } ms a' s' r' q' y ns ∧ Moved base w (w1.setCell ⟨a, 4, none⟩ u) T (fun n => n = t ∨ n = t + 6) := by
  have hm := moved_cell (o := 4) D.x hk hL hS u
  refine ⟨⟨D.x.turn_sent hk hL hS hl hu, ?_, D.tt, D.hi⟩, hm⟩
  obtain ⟨S', k1, k2, k3⟩ := hm
  exact D.y.away k1 k2 (fun g hg hs => by have := k3 g hg hs; have := D.tt; omega) (fun g hg => retag_lt hg)
theorem Duo.got (D : Duo base w T t t' a s r q x ms a' s' r' q' y ns) {S : Nat → Prop} {u : Value} {l : List (List UInt8)} (hk : Kept S w w1) (hL : Loose base w S) (hS : ∀ g, g < w.heap.size → S g → T g = t + 7) (hl : Lines base w1 u l) (hu : ∀ g, u.ownBlock = some g → T g = t + 7 ∨ w.heap.size ≤ g) :
    Duo base (w1.setCell ⟨a, 5, none⟩ u) (retag T w.heap.size (t + 7)) t t' a s r { q with vg := u } { x with got := l } ms a' s' r' q' y ns ∧ Moved base w (w1.setCell ⟨a, 5, none⟩ u) T (fun n => n = t ∨ n = t + 7) := by
  have hm := moved_cell (o := 5) D.x hk hL hS u
  refine ⟨⟨D.x.turn_got hk hL hS hl hu, ?_, D.tt, D.hi⟩, hm⟩
  obtain ⟨S', k1, k2, k3⟩ := hm
  exact D.y.away k1 k2 (fun g hg hs => by have := k3 g hg hs; have := D.tt; omega) (fun g hg => retag_lt hg)
end
/-- The step's box, and the bytes that it bears. -/
structure Fr (base : Nat) (w0 : World) (w : World) (T : Nat → Nat) (b : Nat) (cs : List Value) (v : Value) (m : List UInt8) : Prop where
  hb : base ≤ w.heap.size
  below : Below base w0 w
  range : w.rangeAt b 0 cs
  lt : b < w.heap.size
  tag : T b = 99
  txt : TxAt base w v m
theorem Fr.step {base : Nat} {w0 w w1 : World} {T : Nat → Nat} {b : Nat} {cs : List Value} {v : Value} {m : List UInt8} {K : Nat → Prop} (F : Fr base w0 w T b cs v m) (M : Moved base w w1 T K) (hK : ¬ K 99) (k : Nat) : Fr base w0 w1 (retag T w.heap.size k) b cs v m :=
  ⟨Nat.le_trans F.hb M.size, F.below.trans (M.below F.hb), M.range F.range F.lt (by rw [F.tag]; exact hK), Nat.lt_of_lt_of_le F.lt M.size, by rw [retag_lt F.lt]; exact F.tag, M.txt F.txt F.hb⟩
theorem Fr.same {base : Nat} {w0 w w1 : World} {T : Nat → Nat} {b : Nat} {cs : List Value} {v : Value} {m : List UInt8} (F : Fr base w0 w T b cs v m) (hb : Below w.heap.size w w1) : Fr base w0 w1 T b cs v m :=
  have M : Moved base w w1 T (fun _ => False) := .of_below hb
  ⟨Nat.le_trans F.hb M.size, F.below.trans (M.below F.hb), M.range F.range F.lt id, Nat.lt_of_lt_of_le F.lt M.size, F.tag, M.txt F.txt F.hb⟩
/-- So much a Recv hands back at most. -/
theorem recv_len {s : Se} (hok : s.Ok) (l : List UInt8) : (recvL s l).2.1.length ≤ 1 ∧ (recvL s l).2.2.1.length ≤ 201 := by
  have hmo : ∀ k, (s.meetOut k).length ≤ 200 := fun k => by
    unfold Se.meetOut
    split
    · rw [tickL_len]; exact hok.wait
    · exact Nat.zero_le _
  unfold recvL
  split
  · exact ⟨Nat.zero_le _, Nat.zero_le _⟩
  · rename_i h m _
    have := hmo h.life
    split
    · exact ⟨Nat.zero_le _, Nat.zero_le _⟩
    · split
      · exact ⟨Nat.zero_le _, by show (s.meetOut h.life).length ≤ 201; omega⟩
      · split
        · exact ⟨Nat.zero_le _, by show (s.meetOut h.life).length ≤ 201; omega⟩
        · refine ⟨?_, ?_⟩
          · show (if _ then [m] else []).length ≤ 1
            split <;> simp
          · show (s.meetOut h.life ++ [_]).length ≤ 201
            rw [List.length_append]
            simp
            omega
theorem recv_ok {s : Se} (hok : s.Ok) (l : List UInt8) : (recvL s l).1.Ok := by
  unfold recvL
  split
  · exact hok
  · rename_i h m hp
    have hf := parse_far hp
    unfold farN at hf
    have h1 := meet_ok hok (l := h.life) hf.2.1
    have h2 := acked_ok h1 h hf.2.2.2.2
    split
    · exact hok
    · split
      · exact h1
      · split
        · exact h2
        · exact take_ok h2 h hf.2.2.2.1
theorem one_ok {x y x' y' : Xs} {kind : Int} {m : List UInt8} {z : Int} {yes : Bool} (h : OneTo x y kind m z yes x' y') (hx : x.ses.Ok) (hy : y.ses.Ok) : x'.ses.Ok ∧ y'.ses.Ok := by
  cases h with
  | sendNo _ => exact ⟨hx, hy⟩
  | sendYes _ hm hw => exact ⟨push_ok hx hm hw, hy⟩
  | tick _ => exact ⟨hx, hy⟩
  | none _ _ => exact ⟨hx, hy⟩
  | recv k p l _ _ hp hl => exact ⟨recv_ok hx p, hy⟩
  | lose k p _ hp => exact ⟨hx, hy⟩
  | other _ _ _ _ _ => exact ⟨hx, hy⟩
theorem one_len {x y x' y' : Xs} {kind : Int} {m : List UInt8} {z : Int} {yes : Bool} (h : OneTo x y kind m z yes x' y') (hx : x.ses.Ok) : x'.inn.length ≤ x.inn.length ∧ y'.inn.length ≤ y.inn.length + 201 ∧ x'.sent.length ≤ x.sent.length + 1 ∧ y'.sent.length = y.sent.length ∧ x'.got.length ≤ x.got.length + 1 ∧ y'.got.length = y.got.length := by
  have hcut : ∀ (l : List (List UInt8)) (k : Nat), (l.take k ++ l.drop (k + 1)).length ≤ l.length := fun l k => by rw [List.length_append, List.length_take, List.length_drop]; omega
  cases h with
  | sendNo _ => exact ⟨by omega, by omega, by omega, rfl, by omega, rfl⟩
  | sendYes _ hm hw => exact ⟨Nat.le_refl _, by show (y.inn ++ [_]).length ≤ _; simp, by show (x.sent ++ [m]).length ≤ _; simp, rfl, by show x.got.length ≤ _; omega, rfl⟩
  | tick _ => exact ⟨Nat.le_refl _, by show (y.inn ++ tickL x.ses).length ≤ _; rw [List.length_append, tickL_len]; have := hx.wait; omega, by omega, rfl, by omega, rfl⟩
  | none _ _ => exact ⟨by omega, by omega, by omega, rfl, by omega, rfl⟩
  | recv k p l _ _ hp hl =>
    have hr := recv_len hx p
    refine ⟨?_, by show (y.inn ++ (recvL x.ses p).2.2.1).length ≤ _; rw [List.length_append]; omega, by show x.sent.length ≤ _; omega, rfl, by show (x.got ++ (recvL x.ses p).2.1).length ≤ _; rw [List.length_append]; omega, rfl⟩
    show l.length ≤ _
    rw [hl]
    split
    · exact Nat.le_refl _
    · exact hcut _ _
  | lose k p _ hp => exact ⟨hcut _ _, by omega, by show x.sent.length ≤ _; omega, rfl, by show x.got.length ≤ _; omega, rfl⟩
  | other _ _ _ _ _ => exact ⟨by omega, by omega, by omega, rfl, by omega, rfl⟩
end Go.Proofs.Ytchhejheobceiaa
