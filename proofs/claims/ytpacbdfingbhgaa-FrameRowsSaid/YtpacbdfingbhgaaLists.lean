/- Rows of rows of bytes: what they read as; the walk of penstockalike.Rows at two rows of the same; append of one. No condition. -/
import Derived.Test.YtpacbdfingbhgaaAlike
import Derived.Test.YtpacbdfingbhgaaOps
import Derived.Deep.Slices
namespace Go.Proofs.Ytpacbdfingbhgaa
open Go.RowKit
set_option linter.unusedVariables false

/-- The value reads as these bytes, below block B. -/
def IsBytes (w : World) (B : Nat) (v : Value) (l : List UInt8) : Prop := ∃ A c, v = .slice A l.length c ∧ l.length ≤ c ∧ c ≤ maxLen ∧ Reads w B 1 A l.length (bc l)
def AreBytes (w : World) (B : Nat) (vs : List Value) (ls : List (List UInt8)) : Prop := vs.length = ls.length ∧ ∀ (i : Nat) (v : Value) (l : List UInt8), vs[i]? = some v → ls[i]? = some l → IsBytes w B v l
/-- Each value is a row of the call's own. -/
def OwnAll (w : World) (base : Nat) (vs : List Value) (ls : List (List UInt8)) : Prop := vs.length = ls.length ∧ ∀ (i : Nat) (v : Value) (l : List UInt8), vs[i]? = some v → ls[i]? = some l → w.ownsRow base 5 1 v l.length (bc l)

theorem IsBytes.keep {w w' : World} {B : Nat} {v : Value} {l : List UInt8} (h : IsBytes w B v l) (hk : ∀ p : Addr, p.block < B → w'.cell? p = w.cell? p) : IsBytes w' B v l := by
  obtain ⟨A, c, e, h1, h2, hr⟩ := h
  exact ⟨A, c, e, h1, h2, hr.keep hk⟩
theorem IsBytes.more {w : World} {B B' : Nat} {v : Value} {l : List UInt8} (h : IsBytes w B v l) (hB : B ≤ B') : IsBytes w B' v l := by
  obtain ⟨A, c, e, h1, h2, hr⟩ := h
  exact ⟨A, c, e, h1, h2, hr.more hB⟩
theorem AreBytes.below {w w' : World} {B : Nat} {vs : List Value} {ls : List (List UInt8)} (h : AreBytes w B vs ls) (hb : Below B w w') : AreBytes w' B vs ls :=
  ⟨h.1, fun i v l h1 h2 => (h.2 i v l h1 h2).keep fun p hp => hb.cell hp⟩
theorem AreBytes.drewN {w : World} {B : Nat} {vs : List Value} {ls : List (List UInt8)} (h : AreBytes w B vs ls) (n : Nat) : AreBytes (w.drewN n) B vs ls := h
theorem AreBytes.more {w : World} {B B' : Nat} {vs : List Value} {ls : List (List UInt8)} (h : AreBytes w B vs ls) (hB : B ≤ B') : AreBytes w B' vs ls :=
  ⟨h.1, fun i v l h1 h2 => (h.2 i v l h1 h2).more hB⟩
theorem AreBytes.take_ {w : World} {B : Nat} {vs : List Value} {ls : List (List UInt8)} (h : AreBytes w B vs ls) (k : Nat) : AreBytes w B (vs.take k) (ls.take k) := by
  refine ⟨by rw [List.length_take, List.length_take, h.1], fun i v l h1 h2 => ?_⟩
  rw [List.getElem?_take] at h1 h2
  split at h1
  · rename_i hi
    rw [if_pos hi] at h2
    exact h.2 i v l h1 h2
  · cases h1
theorem AreBytes.drop_ {w : World} {B : Nat} {vs : List Value} {ls : List (List UInt8)} (h : AreBytes w B vs ls) (k : Nat) : AreBytes w B (vs.drop k) (ls.drop k) := by
  refine ⟨by rw [List.length_drop, List.length_drop, h.1], fun i v l h1 h2 => ?_⟩
  rw [List.getElem?_drop] at h1 h2
  exact h.2 _ v l h1 h2
theorem OwnAll.reads {w : World} {base : Nat} {vs : List Value} {ls : List (List UInt8)} (h : OwnAll w base vs ls) : AreBytes w w.heap.size vs ls := by
  refine ⟨h.1, fun i v l h1 h2 => ?_⟩
  obtain ⟨A, c, e, h3, h4, h5⟩ := Owns.form (.inl (h.2 i v l h1 h2))
  exact ⟨A, c, e, h3, h4, h5⟩
theorem OwnAll.nil_ (w : World) (base : Nat) : OwnAll w base [] [] := ⟨rfl, fun i v l h => by simp at h⟩
theorem OwnAll.below {w w' : World} {base B : Nat} {vs : List Value} {ls : List (List UInt8)} (h : OwnAll w base vs ls) (hb : Below B w w') (hB : w.heap.size ≤ B) : OwnAll w' base vs ls := by
  refine ⟨h.1, fun i v l h1 h2 => ?_⟩
  refine (h.2 i v l h1 h2).kept (row := none) ⟨hb.os, hb.tape, hb.output, hb.size, fun k hk _ => hb.block k (by omega)⟩ ?_
  cases v.ownBlock <;> simp
theorem own_more {w : World} {base base' : Nat} {e : TypeId} {s n : Nat} {v : Value} {xs : List Value} (h : w.ownsRow base e s v n xs) (hb : base' ≤ base) : w.ownsRow base' e s v n xs := by
  refine ⟨h.1, ?_⟩
  rcases h.2 with h2 | ⟨g, cap, cur, hv, hg, r⟩
  · exact .inl h2
  · exact .inr ⟨g, cap, cur, hv, by omega, r⟩
theorem own_below {w w' : World} {base B : Nat} {e : TypeId} {s n : Nat} {v : Value} {xs : List Value} (h : w.ownsRow base e s v n xs) (hb : Below B w w') (hB : w.heap.size ≤ B) : w'.ownsRow base e s v n xs := by
  refine h.kept (row := none) ⟨hb.os, hb.tape, hb.output, hb.size, fun k hk _ => hb.block k (by omega)⟩ ?_
  cases v.ownBlock <;> simp
theorem own_ne {w : World} {b b' : Nat} {e e' : TypeId} {s s' n n' : Nat} {v v' : Value} {xs xs' : List Value} (h : w.ownsRow b e s v n xs) (h' : w.ownsRow b' e' s' v' n' xs') (hne : e ≠ e') : v.ownBlock = none ∨ v.ownBlock ≠ v'.ownBlock := by
  rcases h.2 with ⟨rfl, _⟩ | ⟨g, cap, cur, rfl, _, hg, _⟩
  · left; rfl
  · right
    intro he
    rcases h'.2 with ⟨rfl, _⟩ | ⟨g', cap', cur', rfl, _, hg', _⟩
    · simp [Value.ownBlock] at he
    · simp [Value.ownBlock] at he
      subst he
      rw [hg] at hg'
      injection hg' with hg'
      injection hg' with _ ht
      exact hne ht
theorem OwnAll.grown {w w' : World} {base b' : Nat} {e' : TypeId} {s' n' : Nat} {v' : Value} {xs' : List Value} {vs : List Value} {ls : List (List UInt8)} (h : OwnAll w base vs ls)
    (ho : w.ownsRow b' e' s' v' n' xs') (hne : 5 ≠ e') (hg : w.grownBy w' v'.ownBlock) : OwnAll w' base vs ls :=
  ⟨h.1, fun i v l h1 h2 => (h.2 i v l h1 h2).kept hg (own_ne (h.2 i v l h1 h2) ho hne)⟩
theorem OwnAll.alloc {w : World} {base : Nat} {vs : List Value} {ls : List (List UInt8)} (h : OwnAll w base vs ls) (o : Obj) : OwnAll (w.alloc o) base vs ls :=
  ⟨h.1, fun i v l h1 h2 => (h.2 i v l h1 h2).alloc o⟩
theorem OwnAll.snoc {w : World} {base : Nat} {vs : List Value} {ls : List (List UInt8)} {v : Value} {l : List UInt8} (h : OwnAll w base vs ls) (hv : w.ownsRow base 5 1 v l.length (bc l)) : OwnAll w base (vs ++ [v]) (ls ++ [l]) := by
  refine ⟨by simp [h.1], fun i u k h1 h2 => ?_⟩
  by_cases hi : i < vs.length
  · rw [List.getElem?_append_left hi] at h1
    rw [List.getElem?_append_left (by rw [← h.1]; exact hi)] at h2
    exact h.2 i u k h1 h2
  · rw [List.getElem?_append_right (by omega)] at h1
    rw [List.getElem?_append_right (by rw [← h.1]; omega)] at h2
    have hi0 : i - vs.length = 0 := by
      have := (List.getElem?_eq_some_iff.1 h1).1
      simp at this
      omega
    rw [hi0] at h1
    rw [← h.1, hi0] at h2
    simp at h1 h2
    subst h1 h2
    exact hv

theorem Try.infoBytes : (Try.prog.info? 22).map (fun i => (i.zero, i.size, i.bytes)) = some (some (.slice none 0 0), 1, 24) := by kernel_rfl
theorem slice_one {A : Option Addr} {n c : Nat} : ∀ u ∈ [Value.slice A n c], u.oneCell' = true := by
  intro u hu
  simp at hu
  subst hu
  rfl
/-- append(v, x) at rows of bytes, one element more, at the operation. -/
theorem app_rows (w : World) {ops : Array Oper} {rest : List Oper} {o : Oper} {a : Act} {Q : Exit → Act → World → Prop} (hgd : o.guard = none) (s x : Operand)
    (ho : o.op = .call { callee := .builtin .append, args := #[s, x], argTypes := #[35, 35] })
    (base : Nat) (v : Value) (n : Nat) (xs : List Value) (hs : a.eval s = v) (hown : w.ownsRow base 22 1 v n xs)
    (ad : Addr) (m c : Nat) (news : List Value) (hx : a.eval x = .slice (some ad) m c) (hl : news.length = m) (hnews : ∀ j u, news[j]? = some u → w.cell? (ad.add j) = some u) (h1 : ∀ u ∈ news, u.oneCell' = true)
    (hbytes : n + m ≤ 1000000) (hbase : base ≤ w.heap.size)
    (h : ∀ v' w', w'.ownsRow base 22 1 v' (n + m) (xs ++ news) → w.grownBy w' v.ownBlock → Below base w w' → wpList Try.prog ops Q rest (a.put o.dst v') w') : wpList Try.prog ops Q (o :: rest) a w := by
  obtain ⟨i0, hi, hz0, hz1, hz2⟩ := info_parts Try.infoBytes
  exact wpList_append_own w hgd s x _ ho base _ i0 _ 1 24 Try.underlying35 hi hz0 hz1 hz2 rfl (by omega) v n xs hs hown ad m c news hx (by omega) hnews h1 (by simp only [maxLen]; omega) (by omega) hbase
    fun v' w' h2 h3 _ => h v' w' h2 h3 ((Below.refl _ _).grown h3 hbase fun k hk => (hown.lt k hk).1)

theorem Reads.at' {w : World} {B n k : Nat} {A : Option Addr} {xs : List Value} (h : Reads w B 1 A n xs) (hk : k < n) : ∃ ad u, A = some ad ∧ xs[k]? = some u ∧ w.cell? (ad.add k) = some u := by
  obtain ⟨ad, u, e, _, h1, h2⟩ := h.at_ hk
  exact ⟨ad, u, e, h1, h2⟩

set_option maxRecDepth 100000 in
set_option maxHeartbeats 400000 in
theorem rows_same (A B : Option Addr) (n ca cb : Nat) (vs us : List Value) (ls : List (List UInt8)) (w : World) {B1 B2 B3 B4 : Nat} (ha : Reads w B1 1 A n vs) (hb : Reads w B2 1 B n us)
    (hv : AreBytes w B3 vs ls) (hu : AreBytes w B4 us ls) (hn : n ≤ maxLen) :
    Calls Try.prog 20 #[.slice A n ca, .slice B n cb] w (YesDrew w) := by
  unfold maxLen at hn
  have HL : Hid (ls.length = n) := by have := ha.1; have := hv.1; unfold Hid; omega
  go_enter Try.func20, Try.ntmps20
  go_wp2
  go_loopw [5] (fun i wr => ∃ k m : Nat, k ≤ n ∧ i = .int .i64 k ∧ wr = w.drewN m) (fun i _ => n - (intOf i).toNat)
  case atStart => exact ⟨0, 0, Nat.zero_le _, rfl, rfl⟩
  case round =>
    obtain ⟨k, m, hk, rfl, rfl⟩ := hrel
    by_cases hlt : k < n
    · obtain ⟨ad, u, rfl, hx, hca⟩ := ha.at' hlt
      obtain ⟨ad', u', rfl, hx', hcb⟩ := hb.at' hlt
      obtain ⟨l, hl⟩ : ∃ l, ls[k]? = some l := ⟨_, List.getElem?_eq_getElem (by have := HL.out; omega)⟩
      obtain ⟨A1, c1, rfl, hc1, hm1, hr1⟩ := hv.2 k u l hx hl
      obtain ⟨A2, c2, rfl, hc2, hm2, hr2⟩ := hu.2 k u' l hx' hl
      have HC := Lib.hid (fun j => bytes_same A1 A2 l.length c1 c2 l (w.drewN j) (hr1.drewN j) (hr2.drewN j) (by omega))
      clear hx hx' hl
      go_wp2
      go_quiet ((go_at_call 12; exact quiet_add (HC.out _)))
      go_wp2
      go_roundw
      case rel => exact ⟨k + 1, _, by omega, by go_num, rfl⟩
      case measure => simp [intOf]; omega
    · go_wp2
      go_ret
      exact ⟨rfl, m, rfl⟩
end Go.Proofs.Ytpacbdfingbhgaa
