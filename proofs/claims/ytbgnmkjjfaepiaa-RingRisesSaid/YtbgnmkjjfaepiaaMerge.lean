import Derived.Test.YtbgnmkjjfaepiaaMergePlain
import Derived.Test.YtbgnmkjjfaepiaaFlat
import Derived.BigRegion
import Derived.Deep.RegionHeld3
import Derived.OneCell
import Derived.Deep.LoopGhost
import Derived.Deep.CutRange
namespace Go.Proofs.Ytbgnmkjjfaepiaa
open Go.RowKit
set_option linter.unusedVariables false

/-- A range's four cells. -/
theorem cells4m {W : World} {ad : Addr} {r : Rg} (h : ∀ j v, r.cells[j]? = some v → W.cell? (ad.add j) = some v) :
    W.cell? ad = some (.int .i64 r.a) ∧ W.cell? ⟨ad.block, ad.off + 1, none⟩ = some (.int .i64 r.b) ∧ W.cell? ⟨ad.block, ad.off + 2, none⟩ = some (.int .i64 r.c) ∧ W.cell? ⟨ad.block, ad.off + 3, none⟩ = some (.int .i64 r.d) := by
  have h0 := h 0 _ rfl
  have h1 := h 1 _ rfl
  have h2 := h 2 _ rfl
  have h3 := h 3 _ rfl
  rw [add1 _ _ (by omega)] at h1 h2 h3
  exact ⟨by simpa [Addr.add] using h0, h1, h2, h3⟩
theorem next_lem (x y : Rg) (i k : Nat) : i ≤ nextI x y i ∧ k ≤ nextK x y k := by unfold nextI nextK; exact ⟨by split <;> omega, by split <;> omega⟩
theorem own_setCells_otherm {base size n b : Nat} {e : TypeId} {v : Value} {xs : List Value} (hb : v.ownBlock ≠ some b) : ∀ (vs : List Value) (o : Nat) {w : World}, w.ownsRow base e size v n xs → (w.setCells b o vs).ownsRow base e size v n xs
  | [], _, _, h => h
  | u :: vs, o, w, h => own_setCells_otherm hb vs (o + 1) (ownsRow_setCell_other h (by simpa using hb) u)

structure Rn where
  r : Rg
  f : Rg
  s : Int
def Rn.cells (x : Rn) : List Value := [.int .i64 x.r.a, .int .i64 x.r.b, .int .i64 x.r.c, .int .i64 x.r.d, .int .i64 x.f.a, .int .i64 x.f.b, .int .i64 x.f.c, .int .i64 x.f.d, .int .i64 x.s]
theorem Rn.cells_length (x : Rn) : x.cells.length = 9 := rfl
theorem Rn.cells_one (x : Rn) : ∀ u ∈ x.cells, u.oneCell' = true := by
  intro u hu
  simp [Rn.cells] at hu
  rcases hu with rfl | rfl | rfl | rfl | rfl | rfl | rfl | rfl | rfl <;> rfl
def runCells (l : List Rn) : List Value := l.flatMap Rn.cells
/-- What the runs say of the pieces, and of where the last one comes from. -/
structure Runs (l m : List Rg) (rs : List Rn) (out : List Rg) (from_ : Int) : Prop where
  out : rs.map Rn.r = out
  last : ∀ x, rs.getLast? = some x → (x.s = 1 ∧ 0 ≤ from_ ∧ from_ < 1000 ∧ l[from_.toNat]? = some x.f) ∨ (x.s = 2 ∧ 1000 ≤ from_ ∧ m[(from_ - 1000).toNat]? = some x.f)

theorem runs_same {l m : List Rg} {x y rr rl : Rg} {s self from_ : Int} {i k : Nat} {rs : List Rn} {out : List Rg} (sl : soundL l = true) (sm : soundL m = true) (hrs : Runs l m rs out from_) (hl : rs.getLast? = some ⟨rr, rl, s⟩)
    (hx : l[i]? = some x) (hy : m[k]? = some y) : (s = (if takeB x y self then 2 else 1) ∧ rl = pickP x y self) ↔ whoP x y self i k = from_ := by
  have h1 := (sound_parts sl).1
  have h2 := (sound_parts sm).1
  have z1 := (sound_parts sl).2
  have hi := (List.getElem?_eq_some_iff.1 hx).1
  have gx := sg_mem h1 x (List.mem_of_getElem? hx)
  have gy := sg_mem h2 y (List.mem_of_getElem? hy)
  rcases hrs.last _ hl with ⟨a1, a2, a3, a4⟩ | ⟨a1, a2, a3⟩
  · simp only at a1 a4
    cases ht : takeB x y self
    · simp only [whoP, pickP, ht, Bool.false_eq_true, if_false]
      constructor
      · rintro ⟨_, rfl⟩
        have := sg_uniq (h := rl.a) h1 a4 hx (has_iff.2 ⟨by omega, by omega⟩) (has_iff.2 ⟨by omega, by omega⟩)
        omega
      · rintro rfl
        rw [show ((i : Int).toNat) = i by omega, hx] at a4
        injection a4 with a4
        exact ⟨a1, a4.symm⟩
    · simp only [whoP, pickP, ht, if_true]
      constructor
      · rintro ⟨e, _⟩; omega
      · intro e; omega
  · simp only at a1 a3
    cases ht : takeB x y self
    · simp only [whoP, pickP, ht, Bool.false_eq_true, if_false]
      constructor
      · rintro ⟨e, _⟩; omega
      · intro e; omega
    · simp only [whoP, pickP, ht, if_true]
      constructor
      · rintro ⟨_, rfl⟩
        have := sg_uniq (h := rl.a) h2 a3 hy (has_iff.2 ⟨by omega, by omega⟩) (has_iff.2 ⟨by omega, by omega⟩)
        omega
      · rintro rfl
        rw [show ((1000 + (k : Int) - 1000).toNat) = k by omega, hy] at a3
        injection a3 with a3
        exact ⟨a1, a3.symm⟩
theorem runs_next {l m : List Rg} {x y : Rg} {self from_ : Int} {i k : Nat} {rs : List Rn} {out : List Rg} (sl : soundL l = true) (hrs : Runs l m rs out from_)
    (hx : l[i]? = some x) (hy : m[k]? = some y) (hw : whoP x y self i k ≠ from_) :
    Runs l m (rs ++ [⟨pieceP x y self, pickP x y self, if takeB x y self then 2 else 1⟩]) (outP x y self i k out from_) (whoP x y self i k) := by
  have z1 := (sound_parts sl).2
  have hi := (List.getElem?_eq_some_iff.1 hx).1
  refine ⟨by rw [outP, if_neg hw, List.map_append, hrs.out]; rfl, ?_⟩
  intro z hz
  rw [List.getLast?_concat] at hz
  injection hz with hz
  subst hz
  cases ht : takeB x y self
  · left; refine ⟨rfl, ?_⟩; simp only [whoP, pickP, ht, Bool.false_eq_true, if_false]
    exact ⟨by omega, by omega, by rw [show ((i : Int).toNat) = i by omega]; exact hx⟩
  · right; refine ⟨rfl, ?_⟩; simp only [whoP, pickP, ht, if_true]
    exact ⟨by omega, by rw [show ((1000 + (k : Int) - 1000).toNat) = k by omega]; exact hy⟩
theorem runs_longer {l m : List Rg} {x y : Rg} {self from_ : Int} {i k : Nat} {ro : List Rn} {rl : Rn} {out : List Rg} (hrs : Runs l m (ro ++ [rl]) out from_) (hw : whoP x y self i k = from_) :
    Runs l m (ro ++ [⟨⟨rl.r.a, min x.b y.b, rl.r.c, rl.r.d⟩, rl.f, rl.s⟩]) (outP x y self i k out from_) (whoP x y self i k) := by
  refine ⟨?_, ?_⟩
  · rw [outP, if_pos hw, ← hrs.out, List.map_append, List.map_append]
    exact (setLast_app _ _ _).symm
  · intro z hz
    rw [List.getLast?_concat] at hz
    injection hz with hz
    subst hz
    rw [hw]
    exact hrs.last rl (by rw [List.getLast?_concat])

theorem Try.infoRun : (Try.prog.info? 59).map (fun i => (i.zero, i.size, i.bytes)) = some (some (.agg #[.int .i64 0, .int .i64 0, .int .i64 0, .int .i64 0, .int .i64 0, .int .i64 0, .int .i64 0, .int .i64 0, .int .i64 0]), 9, 72) := by kernel_rfl
theorem app_run (w : World) {ops : Array Oper} {rest : List Oper} {o : Oper} {a : Act} {Q : Exit → Act → World → Prop} (hgd : o.guard = none) (s x : Operand)
    (ho : o.op = .call { callee := .builtin .append, args := #[s, x], argTypes := #[57, 57] })
    (base : Nat) (v : Value) (n : Nat) (xs : List Value) (hs : a.eval s = v) (hown : w.ownsRow base 59 9 v n xs)
    (ad : Addr) (B c : Nat) (r : Rn) (hx : a.eval x = .slice (some ad) 1 c) (hr : Reads w B 9 (some ad) 1 r.cells)
    (hn : n ≤ 1000) (hbase : base ≤ w.heap.size)
    (h : ∀ v' w', w'.ownsRow base 59 9 v' (n + 1) (xs ++ r.cells) → w.grownBy w' v.ownBlock → wpList Try.prog ops Q rest (a.put o.dst v') w') : wpList Try.prog ops Q (o :: rest) a w := by
  obtain ⟨i0, hi, hz0, hz1, hz2⟩ := info_parts Try.infoRun
  exact wpList_append_grow w hgd s x _ ho base _ i0 _ 9 72 Try.underlying57 hi hz0 hz1 hz2 rfl (by omega) v n xs hs hown ad B 1 c r.cells hx hr (by omega) r.cells_one (by simp only [maxLen]; omega) (by omega) hbase h

/-- A row is handed back. -/
def RetRs (w : World) (l : List Rg) (e : Ending) (w' : World) : Prop :=
  ∃ A c, e = .returned (.slice A l.length c) ∧ l.length ≤ c ∧ c ≤ maxLen ∧ Reads w' w'.heap.size 4 A l.length (rowCells l) ∧ Below w.heap.size w w'

section
variable (w : World) (A1 A2 : Option Addr) (n1 c1 n2 c2 : Nat) (l m : List Rg) (self : Int)
  (hr1 : Reads w w.heap.size 4 A1 n1 (rowCells l)) (hw1 : ∀ r ∈ l, r.wf) (hl1 : l.length = n1) (hn1 : n1 ≤ 1000)
  (hr2 : Reads w w.heap.size 4 A2 n2 (rowCells m)) (hw2 : ∀ r ∈ m, r.wf) (hl2 : m.length = n2) (hn2 : n2 ≤ 1000)
include hr1 hw1 hl1 hn1 hr2 hw2 hl2 hn2

set_option maxRecDepth 100000 in
set_option maxHeartbeats 8000000 in
theorem merge_any : Calls Try.prog 23 #[.slice A1 n1 c1, .slice A2 n2 c2, .int .i64 self] w (RetRs w (mergeR l m self)) := by
  obtain ⟨q1, HQ1⟩ : ∃ q, Hid (soundL l = q) := ⟨_, Lib.hid rfl⟩
  obtain ⟨q2, HQ2⟩ : ∃ q, Hid (soundL m = q) := ⟨_, Lib.hid rfl⟩
  have HS1 : Hid (∀ W, Below w.heap.size w W → Calls Try.prog 19 #[.slice A1 n1 c1] W (RetB W q1)) := Lib.hid fun W hb => by
    rw [← HQ1.out]; exact sound_any W A1 n1 c1 l ((hr1.below hb).more hb.size) hw1 hl1 (by simp [maxLen]; omega)
  have HS2 : Hid (∀ W, Below w.heap.size w W → Calls Try.prog 19 #[.slice A2 n2 c2] W (RetB W q2)) := Lib.hid fun W hb => by
    rw [← HQ2.out]; exact sound_any W A2 n2 c2 m ((hr2.below hb).more hb.size) hw2 hl2 (by simp [maxLen]; omega)
  have HCL : Hid (∀ W, Below w.heap.size w W → Calls Try.prog 33 #[.slice A1 n1 c1] W (RetRs W l)) :=
    Lib.hid fun W hb => (cloneR_any A1 n1 c1 l W (hr1.below hb) hb.size hl1 (by omega)).mono fun e w' ⟨v, h1, h2, h3⟩ => by
      subst h1
      obtain ⟨A, c, rfl, a1, a2, a3⟩ := Owns.form (Or.inl h2)
      rw [← hl1] at a1 a3 ⊢
      exact ⟨A, c, rfl, a1, a2, a3, h3⟩
  have HR1 := Lib.hid hr1
  have HR2 := Lib.hid hr2
  have HL1 := Lib.hid hl1
  have HL2 := Lib.hid hl2
  clear hr1 hw1 hl1 hr2 hw2 hl2
  cases q1
  · have HE : Hid (mergeR l m self = l) := Lib.hid (by unfold mergeR; rw [if_neg (by rw [HQ1.out]; simp)])
    go_enter Try.func23, Try.ntmps23
    go_wp2_with (first
      | (refine wpList_unguard rfl ?_)
      | (go_at_call 19; ((with_reducible refine (HS1.out _ (Below.refl _ _)).mono ?_); rintro e w1 ⟨rfl, hb1⟩))
      | (go_at_call 33; ((with_reducible refine (HCL.out _ hb1).mono ?_); rintro e w2 ⟨A3, c3, rfl, hc3, hm3, hr3, hb3⟩)))
    go_ret
    rw [HE.out]
    exact ⟨A3, c3, rfl, hc3, hm3, hr3, hb1.trans (hb3.mono hb1.size)⟩
  cases q2
  · have HE : Hid (mergeR l m self = l) := Lib.hid (by unfold mergeR; rw [if_neg (by rw [HQ2.out]; simp)])
    go_enter Try.func23, Try.ntmps23
    go_wp2_with (first
      | (refine wpList_unguard rfl ?_)
      | (go_at_call 19; ((with_reducible refine (HS1.out _ (Below.refl _ _)).mono ?_); rintro e w1 ⟨rfl, hb1⟩))
      | (go_at_call 19; ((with_reducible refine (HS2.out _ hb1).mono ?_); rintro e w2 ⟨rfl, hb2⟩; have hb2 := hb1.trans (hb2.mono hb1.size)))
      | (go_at_call 33; ((with_reducible refine (HCL.out _ hb2).mono ?_); rintro e w2 ⟨A3, c3, rfl, hc3, hm3, hr3, hb3⟩)))
    go_ret
    rw [HE.out]
    exact ⟨A3, c3, rfl, hc3, hm3, hr3, hb2.trans (hb3.mono hb2.size)⟩
  have h641 := (sound_parts HQ1.out).2
  have h642 := (sound_parts HQ2.out).2
  have n164 : n1 ≤ 64 := by have := HL1.out; omega
  have n264 : n2 ≤ 64 := by have := HL2.out; omega
  have HSTART := Lib.hid (minv_start (self := self) HQ1.out HQ2.out)
  clear h641 h642
  go_enter Try.func23, Try.ntmps23
  go_wp2_with (first
    | (refine wpList_unguard rfl ?_)
    | (go_at_call 19; ((with_reducible refine (HS1.out _ (Below.refl _ _)).mono ?_); rintro e w1 ⟨rfl, hb1⟩))
    | (go_at_call 19; ((with_reducible refine (HS2.out _ hb1).mono ?_); rintro e w2 ⟨rfl, hb2⟩; have HB2 := Lib.hid (hb1.trans (hb2.mono hb1.size)))))
  clear hb1 hb2
  go_loopg [7, 8, 9] ((n1 - 0) + (n2 - 0)) (fun gk v iv kv wr => ∃ (out : List Rg) (from_ : Int) (i k : Nat) (rs : List Rn), Hid (MInv l m self i k out from_) ∧ Hid (Runs l m rs out from_) ∧ gk = (n1 - i) + (n2 - k) ∧ i ≤ n1 ∧ k ≤ n2 ∧ (i < n1 ↔ k < n2)
    ∧ iv = .int .i64 i ∧ kv = .int .i64 k ∧ Hid (wr.ownsRow w.heap.size 59 9 v rs.length (runCells rs)) ∧ Hid (Below w.heap.size w wr))
  case atStart => exact ⟨[], -1, 0, 0, [], HSTART, Lib.hid ⟨rfl, by simp⟩, rfl, Nat.zero_le _, Nat.zero_le _, by have := HSTART.out.hik; rw [HL1.out, HL2.out] at this; exact this, rfl, rfl, Lib.hid (World.ownsRow_nil _ _ _ _), HB2⟩
  case round =>
    obtain ⟨out, from_, i, k, rs, HI, HRS, rfl, hi, hk, hik, rfl, rfl, HO, HB⟩ := hrel
    have HBR := HB
    by_cases hlt : i < n1
    · have hkt : k < n2 := hik.1 hlt
      obtain ⟨x, HX⟩ : ∃ x, Hid (l[i]? = some x) := ⟨_, Lib.hid (List.getElem?_eq_getElem (by have := HL1.out; omega))⟩
      obtain ⟨y, HY⟩ : ∃ y, Hid (m[k]? = some y) := ⟨_, Lib.hid (List.getElem?_eq_getElem (by have := HL2.out; omega))⟩
      obtain ⟨ad1, rfl, hb1, hc1⟩ := (HR1.out.below HB.out).range HX.out hlt
      obtain ⟨ad2, rfl, hb2, hc2⟩ := (HR2.out.below HB.out).range HY.out hkt
      clear hik
      obtain ⟨xa, xb, xc, xd⟩ := x
      obtain ⟨ya, yb, yc, yd⟩ := y
      have HC1 := Lib.hid hc1
      have HC2 := Lib.hid hc2
      clear hc1 hc2
      go_upto_region 6 with (refine wpList_unguard rfl ?_)
      go_cut [10, 11] from 26 to 133 (fun s10 s11 wx => ∃ p q : Nat, s10 = .pointer (some ⟨p, 0, none⟩) ∧ s11 = .pointer (some ⟨q, 0, none⟩) ∧ Hid (Below wr.heap.size wr wx) ∧ wr.heap.size ≤ p ∧ wr.heap.size ≤ q ∧ p < wx.heap.size ∧ q < wx.heap.size ∧ Hid (wx.rangeAt p 0 (Rg.cells ⟨xa, xb, xc, xd⟩)) ∧ Hid (wx.rangeAt q 0 (Rg.cells ⟨ya, yb, yc, yd⟩)))
      case first =>
        -- [[F1
        obtain ⟨x0, x1, x2, x3⟩ := cells4m HC1.out
        obtain ⟨y0, y1, y2, y3⟩ := cells4m HC2.out
        have hbx : (ad1.add (i * 4)).block < wr.heap.size := by rw [block_of_add]; have := HB.out.size; omega
        have hby : (ad2.add (k * 4)).block < wr.heap.size := by rw [block_of_add]; have := HB.out.size; omega
        simp only at x0 x1 x2 x3 y0 y1 y2 y3
        go_region_held3 (fun w' => w'.cell? (ad1.add (i * 4)) = some (.int .i64 xa) ∧ w'.cell? ⟨(ad1.add (i * 4)).block, (ad1.add (i * 4)).off + 1, none⟩ = some (.int .i64 xb) ∧ w'.cell? ⟨(ad1.add (i * 4)).block, (ad1.add (i * 4)).off + 2, none⟩ = some (.int .i64 xc) ∧ w'.cell? ⟨(ad1.add (i * 4)).block, (ad1.add (i * 4)).off + 3, none⟩ = some (.int .i64 xd) ∧ w'.cell? (ad2.add (k * 4)) = some (.int .i64 ya) ∧ w'.cell? ⟨(ad2.add (k * 4)).block, (ad2.add (k * 4)).off + 1, none⟩ = some (.int .i64 yb) ∧ w'.cell? ⟨(ad2.add (k * 4)).block, (ad2.add (k * 4)).off + 2, none⟩ = some (.int .i64 yc) ∧ w'.cell? ⟨(ad2.add (k * 4)).block, (ad2.add (k * 4)).off + 3, none⟩ = some (.int .i64 yd)) (go_keep) (fail)
        all_goals (go_wp2_with fail; go_meet)
        · exact ⟨wr.heap.size, wr.heap.size + 1, rfl, rfl, Lib.hid ((((Below.refl _ _).alloc (Nat.le_refl _) _).alloc (by simp) _).drew), Nat.le_refl _, by omega, by simp; omega, by simp, Lib.hid (World.rangeAt_alloc (range_new wr (Rg.cells ⟨xa, xb, xc, xd⟩) _) _), Lib.hid (by have := range_new (wr.alloc (.cells #[.int .i64 xa, .int .i64 xb, .int .i64 xc, .int .i64 xd] 31)) (Rg.cells ⟨ya, yb, yc, yd⟩) 31; rwa [alloc_size] at this)⟩
        · exact ⟨wr.heap.size + 1, wr.heap.size, rfl, rfl, Lib.hid ((((Below.refl _ _).alloc (Nat.le_refl _) _).alloc (by simp) _).drew), by omega, Nat.le_refl _, by simp, by simp; omega, Lib.hid (by have := range_new (wr.alloc (.cells #[.int .i64 ya, .int .i64 yb, .int .i64 yc, .int .i64 yd] 31)) (Rg.cells ⟨xa, xb, xc, xd⟩) 31; rwa [alloc_size] at this), Lib.hid (World.rangeAt_alloc (range_new wr (Rg.cells ⟨ya, yb, yc, yd⟩) _) _)⟩
        -- ]]F1
      case rest =>
        obtain ⟨p, q, rfl, rfl, HBx, hp0, hq0, hp1, hq1, HP, HQ⟩ := hcut
        go_upto_region 8 with (refine wpList_load_mid rfl 31 _ rfl p 0 rfl [.int .i64 xa, .int .i64 xb, .int .i64 xc, .int .i64 xd] _ HP.out Try.underlying31 rfl (by kernel_rfl) ?_)
        have HF : Hid (Below wr.heap.size wr (wc.alloc (.cells #[.int .i64 xa, .int .i64 xb, .int .i64 xc, .int .i64 xd, .int .i64 xa, .int .i64 xb, .int .i64 xc, .int .i64 xd, .int .i64 1] 59)) ∧ (wc.alloc (.cells #[.int .i64 xa, .int .i64 xb, .int .i64 xc, .int .i64 xd, .int .i64 xa, .int .i64 xb, .int .i64 xc, .int .i64 xd, .int .i64 1] 59)).rangeAt p 0 (Rg.cells ⟨xa, xb, xc, xd⟩) ∧ (wc.alloc (.cells #[.int .i64 xa, .int .i64 xb, .int .i64 xc, .int .i64 xd, .int .i64 xa, .int .i64 xb, .int .i64 xc, .int .i64 xd, .int .i64 1] 59)).rangeAt q 0 (Rg.cells ⟨ya, yb, yc, yd⟩) ∧ (wc.alloc (.cells #[.int .i64 xa, .int .i64 xb, .int .i64 xc, .int .i64 xd, .int .i64 xa, .int .i64 xb, .int .i64 xc, .int .i64 xd, .int .i64 1] 59)).rangeAt wc.heap.size 0 (Rn.cells ⟨⟨xa, xb, xc, xd⟩, ⟨xa, xb, xc, xd⟩, 1⟩) ∧ (wc.alloc (.cells #[.int .i64 xa, .int .i64 xb, .int .i64 xc, .int .i64 xd, .int .i64 xa, .int .i64 xb, .int .i64 xc, .int .i64 xd, .int .i64 1] 59)).there wc.heap.size 0 9 ∧ wc.heap.size < (wc.alloc (.cells #[.int .i64 xa, .int .i64 xb, .int .i64 xc, .int .i64 xd, .int .i64 xa, .int .i64 xb, .int .i64 xc, .int .i64 xd, .int .i64 1] 59)).heap.size ∧ wr.heap.size ≤ wc.heap.size) :=
          Lib.hid ⟨HBx.out.alloc HBx.out.size _, World.rangeAt_alloc HP.out _, World.rangeAt_alloc HQ.out _, range_new wc (Rn.cells ⟨⟨xa, xb, xc, xd⟩, ⟨xa, xb, xc, xd⟩, 1⟩) _, there_new wc (Rn.cells ⟨⟨xa, xb, xc, xd⟩, ⟨xa, xb, xc, xd⟩, 1⟩) _, by rw [alloc_size]; omega, HBx.out.size⟩
        generalize (wc.alloc (.cells #[.int .i64 xa, .int .i64 xb, .int .i64 xc, .int .i64 xd, .int .i64 xa, .int .i64 xb, .int .i64 xc, .int .i64 xd, .int .i64 1] 59)) = W2 at *
        generalize wc.heap.size = bx at *
        clear HP HQ HBx
        have pc2 : W2.cell? ⟨p, 2, none⟩ = some (.int .i64 xc) := HF.out.2.1 2 _ rfl
        have pc3 : W2.cell? ⟨p, 3, none⟩ = some (.int .i64 xd) := HF.out.2.1 3 _ rfl
        have qc2 : W2.cell? ⟨q, 2, none⟩ = some (.int .i64 yc) := HF.out.2.2.1 2 _ rfl
        have qc3 : W2.cell? ⟨q, 3, none⟩ = some (.int .i64 yd) := HF.out.2.2.1 3 _ rfl
        obtain ⟨tb, HTB⟩ : ∃ tb, Hid (takeB ⟨xa, xb, xc, xd⟩ ⟨ya, yb, yc, yd⟩ self = tb) := ⟨_, Lib.hid rfl⟩
        go_cut [63] from 26 to 133 (fun s63 wx => s63 = .bool tb ∧ W2 = wx)
        case first =>
          -- [[F2
          have hcase : (Hid (takeB ⟨xa, xb, xc, xd⟩ ⟨ya, yb, yc, yd⟩ self = true) ∧ (xc != self) = true ∧ (yc != self) = true ∧ decide (xd < yd) = true) ∨ Hid (takeB ⟨xa, xb, xc, xd⟩ ⟨ya, yb, yc, yd⟩ self = false) ∧ ((xc != self) = false ∨ ((xc != self) = true ∧ (yc != self) = false) ∨ ((xc != self) = true ∧ (yc != self) = true ∧ decide (xd < yd) = false)) := by
            unfold takeB
            by_cases t1 : xc = self
            · right; exact ⟨Lib.hid (by simp [t1]), .inl (by simp [t1])⟩
            by_cases t2 : yc = self
            · right; exact ⟨Lib.hid (by simp [t2]), .inr (.inl ⟨by simp [t1], by simp [t2]⟩)⟩
            by_cases t3 : xd < yd
            · left; exact ⟨Lib.hid (by simp [t1, t2, t3]), by simp [t1], by simp [t2], by simp [t3]⟩
            · right; exact ⟨Lib.hid (by simp [t3]), .inr (.inr ⟨by simp [t1], by simp [t2], by simp [t3]⟩)⟩
          rcases hcase with ⟨HT, t1, t2, t3⟩ | ⟨HT, t1 | ⟨t1, t2⟩ | ⟨t1, t2, t3⟩⟩
          all_goals
            go_wp2_with (refine wpList_unguard rfl ?_)
            go_meet
            exact ⟨by rw [← HTB.out, HT.out], rfl⟩
          -- ]]F2
        case rest =>
          obtain ⟨rfl, rfl⟩ := hcut
          obtain ⟨pk, HPK⟩ : ∃ r, Hid (pickP ⟨xa, xb, xc, xd⟩ ⟨ya, yb, yc, yd⟩ self = r) := ⟨_, Lib.hid rfl⟩
          obtain ⟨ws, HWS⟩ : ∃ r : Int, Hid ((if tb then 2 else 1) = r) := ⟨_, Lib.hid rfl⟩
          clear pc2 pc3 qc2 qc3
          go_upto_if 63 with fail
          go_cut [] from 26 to 133 (fun wx => Hid (Below wr.heap.size wr wx ∧ wx.rangeAt p 0 (Rg.cells ⟨xa, xb, xc, xd⟩) ∧ wx.rangeAt q 0 (Rg.cells ⟨ya, yb, yc, yd⟩) ∧ wx.rangeAt bx 0 (Rn.cells ⟨pk, pk, ws⟩) ∧ wx.there bx 0 9 ∧ bx < wx.heap.size ∧ wr.heap.size ≤ bx))
          case first =>
            -- [[F3
            cases tb
            · go_wp2_with fail
              go_meet
              have e1 : pk = ⟨xa, xb, xc, xd⟩ := by rw [← HPK.out, pickP, HTB.out]; rfl
              have e2 : ws = 1 := HWS.out.symm
              rw [e1, e2]
              exact HF
            · go_wp2_with (first
                | (refine wpList_load_mid rfl 31 _ rfl q 0 rfl [.int .i64 ya, .int .i64 yb, .int .i64 yc, .int .i64 yd] _ HF.out.2.2.1 Try.underlying31 rfl (by kernel_rfl) ?_)
                | (refine wpList_store_mid rfl 59 _ _ rfl bx 0 (Rn.cells ⟨⟨ya, yb, yc, yd⟩, ⟨ya, yb, yc, yd⟩, 2⟩).toArray rfl rfl HF.out.2.2.2.2.1 (by kernel_rfl) (all_oneCell_toArray (Rn.cells_one _)) ?_))
              go_meet
              have e1 : pk = ⟨ya, yb, yc, yd⟩ := by rw [← HPK.out, pickP, HTB.out]; rfl
              have e2 : ws = 2 := HWS.out.symm
              rw [e1, e2]
              obtain ⟨f1, f2, f3, f4, f5, f6, f7⟩ := HF.out
              exact Lib.hid ⟨Below.setCells _ f7 _ _ f1, World.rangeAt_setCells_apart f2 _ _ _ (.inl (by omega)), World.rangeAt_setCells_apart f3 _ _ _ (.inl (by omega)), World.rangeAt_setCells_same _ _ _ _ f5, World.there_setCells f5 _ _ _, by rw [size_setCells]; exact f6, f7⟩
            -- ]]F3
          case rest =>
            have HF2 := hcut
            clear hcut
            obtain ⟨ka, kb, kc, kd⟩ := pk
            go_upto_region 10 with fail
            have pc0 : wc.cell? ⟨p, 0, none⟩ = some (.int .i64 xa) := HF2.out.2.1 0 _ rfl
            have pc1 : wc.cell? ⟨p, 1, none⟩ = some (.int .i64 xb) := HF2.out.2.1 1 _ rfl
            have qc0 : wc.cell? ⟨q, 0, none⟩ = some (.int .i64 ya) := HF2.out.2.2.1 0 _ rfl
            have qc1 : wc.cell? ⟨q, 1, none⟩ = some (.int .i64 yb) := HF2.out.2.2.1 1 _ rfl
            have xc0 : wc.cell? ⟨bx, 0, none⟩ = some (.int .i64 ka) := HF2.out.2.2.2.1 0 _ rfl
            have xc1 : wc.cell? ⟨bx, 1, none⟩ = some (.int .i64 kb) := HF2.out.2.2.2.1 1 _ rfl
            have xf0 : wc.frozen? ⟨bx, 0, none⟩ = false := (HF2.out.2.2.2.2.1 0 (by omega)).2
            have xf1 : wc.frozen? ⟨bx, 1, none⟩ = false := (HF2.out.2.2.2.2.1 1 (by omega)).2
            obtain ⟨pos, hmax⟩ : ∃ r, (if xa < ya then ya else xa) = r := ⟨_, rfl⟩
            obtain ⟨lst, hmin⟩ : ∃ r, (if yb < xb then yb else xb) = r := ⟨_, rfl⟩
            have HMAX : Hid (pos = max xa ya) := Lib.hid (by rw [← hmax]; split <;> omega)
            have HMIN : Hid (lst = min xb yb) := Lib.hid (by rw [← hmin]; split <;> omega)
            have hpx : (p = bx) = False := eq_false (by omega)
            have hqx : (q = bx) = False := eq_false (by omega)
            go_cut [] from 26 to 133 (fun wx => Hid (Below wr.heap.size wr wx ∧ wx.rangeAt p 0 (Rg.cells ⟨xa, xb, xc, xd⟩) ∧ wx.rangeAt q 0 (Rg.cells ⟨ya, yb, yc, yd⟩) ∧ wx.rangeAt bx 0 (Rn.cells ⟨⟨pos, lst, kc, kd⟩, ⟨ka, kb, kc, kd⟩, ws⟩) ∧ wx.there bx 0 9 ∧ bx < wx.heap.size ∧ wr.heap.size ≤ bx))
            case first =>
              -- [[F4
              go_region
              all_goals (go_wp2_with fail; go_meet)
              all_goals (
                obtain ⟨f1, f2, f3, f4, f5, f6, f7⟩ := HF2.out
                refine Lib.hid ⟨((f1.setCell f7 _).setCell f7 _).drew, range_setCell_other (range_setCell_other f2 (by simp only; omega) _) (by simp only; omega) _, range_setCell_other (range_setCell_other f3 (by simp only; omega) _) (by simp only; omega) _,
                  range_setCell (range_setCell f4 0 _) 1 _, there_setCell (there_setCell f5 _ _ _) _ _ _, by simpa using f6, f7⟩)
              -- ]]F4
            case rest =>
              have HF3 := hcut
              clear hcut hmax hmin pc0 pc1 qc0 qc1 xc0 xc1 xf0 xf1 HF2 HF
              obtain ⟨N, HN⟩ : ∃ N, Hid (rs.length = N) := ⟨_, Lib.hid rfl⟩
              have hN : N ≤ 128 := by
                have h1 := HI.out.len
                have h2 : out.length = N := by rw [← HRS.out.out, List.length_map, HN.out]
                omega
              have HO3 : Hid (wc.ownsRow w.heap.size 59 9 u7 N (runCells rs)) := Lib.hid (by
                have := own_below HO.out HF3.out.1 (Nat.le_refl _)
                rwa [HN.out] at this)
              obtain ⟨A7, c7, rfl, hrc, hrm, _⟩ := Owns.form (Or.inl HO3.out)
              have HLT : Hid (∀ g, (Value.slice A7 N c7).ownBlock = some g → w.heap.size ≤ g ∧ g < wr.heap.size) := Lib.hid (HO.out.lt)
              obtain ⟨cb, HCB⟩ : ∃ cb, Hid (cb = decide (whoP ⟨xa, xb, xc, xd⟩ ⟨ya, yb, yc, yd⟩ self i k = from_)) := ⟨_, Lib.hid rfl⟩
              go_upto_region 12 with fail
              obtain ⟨sl, HSL⟩ : ∃ sl : Int, Hid ((N : Int) - 1 = sl) := ⟨_, Lib.hid rfl⟩
              rw [show (N : Int) - 1 = sl from HSL.out]
              go_cut [105] from 26 to 133 (fun s105 wx => s105 = .bool cb ∧ ∃ nq, wx = wc.drewN nq)
              case first =>
                rcases Nat.eq_zero_or_pos N with hN0 | hN0
                · subst hN0
                  obtain rfl : sl = -1 := by have := HSL.out; omega
                  have hrs0 : rs = [] := List.eq_nil_of_length_eq_zero HN.out
                  have hc : cb = false := by
                    rw [HCB.out]
                    rcases HI.out.fr with ⟨_, e⟩ | ⟨p', r', e1, _⟩
                    · simp only [e, whoP, decide_eq_false_iff_not]; split <;> omega
                    · have : out = [] := by rw [← HRS.out.out, hrs0]; rfl
                      rw [this] at e1; simp at e1
                  clear hrs0
                  subst hc
                  -- [[N0
                  refine wp_region_quiet_lit (by kernel_rfl) (by kernel_rfl) ?_
                  repeat (go_big_quiet_step (fail))
                  refine wpQuiet_nil ?_
                  rintro _ ⟨nq, rfl⟩
                  go_wp2_with fail
                  go_meet
                  exact ⟨rfl, nq, rfl⟩
                  -- ]]N0
                · obtain ⟨L, rfl⟩ : ∃ L, N = L + 1 := ⟨N - 1, by omega⟩
                  obtain rfl : sl = (L : Int) := by have := HSL.out; omega
                  obtain ⟨g, c, e, hgc, hgm, hgb, hgl, hgo⟩ := own_head (Or.inl HO3.out) (by omega)
                  injection e with e1 e2 e3
                  subst e1 e3
                  obtain ⟨rl, hrl⟩ : ∃ rl, rs[L]? = some rl := ⟨_, List.getElem?_eq_getElem (by have := HN.out; omega)⟩
                  have hcl := flat_own Rn.cells_length hgo hrl
                  obtain ⟨⟨r1, r2, r3, r4⟩, ⟨f1, f2, f3, f4⟩, s⟩ := rl
                  have HFC : Hid (∀ j v, (Rg.mk f1 f2 f3 f4).cells[j]? = some v → wc.cell? ((⟨g, L * 9 + 4, none⟩ : Addr).add j) = some v) := Lib.hid fun j v hv => by
                    rw [Addr.add_mid, Nat.add_assoc]
                    refine (hcl (4 + j) v ?_).1
                    rcases j with _ | _ | _ | _ | j
                    · exact hv
                    · exact hv
                    · exact hv
                    · exact hv
                    · simp [Rg.cells] at hv
                  have HKC : Hid (∀ j v, (Rg.mk ka kb kc kd).cells[j]? = some v → wc.cell? ((⟨bx, 4, none⟩ : Addr).add j) = some v) := Lib.hid fun j v hv => by
                    rw [Addr.add_mid]
                    have := HF3.out.2.2.2.1 (4 + j) v (by
                      rcases j with _ | _ | _ | _ | j
                      · exact hv
                      · exact hv
                      · exact hv
                      · exact hv
                      · simp [Rg.cells] at hv)
                    rwa [Nat.zero_add] at this
                  have gs : wc.cell? ⟨g, L * 9 + 8, none⟩ = some (.int .i64 s) := (hcl 8 _ rfl).1
                  have xs8 : wc.cell? ⟨bx, 8, none⟩ = some (.int .i64 ws) := HF3.out.2.2.2.1 8 _ rfl
                  have hl : rs.getLast? = some ⟨⟨r1, r2, r3, r4⟩, ⟨f1, f2, f3, f4⟩, s⟩ := by rw [List.getLast?_eq_getElem?, HN.out]; exact hrl
                  have HIFF := Lib.hid (runs_same (self := self) HQ1.out HQ2.out HRS.out hl HX.out HY.out)
                  rw [HTB.out, HWS.out, HPK.out] at HIFF
                  clear hl hcl hrl hgo
                  by_cases es : s = ws
                  · have esb : (s == ws) = true := by simpa using es
                    by_cases ef : (⟨f1, f2, f3, f4⟩ : Rg) = ⟨ka, kb, kc, kd⟩
                    · have hcb : cb = true := by rw [HCB.out]; exact decide_eq_true (HIFF.out.1 ⟨es, ef⟩)
                      have HEF := Lib.hid ef
                      clear ef es
                      subst hcb
                      -- [[Q1
                      refine wp_region_quiet_lit (by kernel_rfl) (by kernel_rfl) ?_
                      repeat (first
                        | (go_big_quiet_want; refine quiet_load_at 31 _ rfl _ rfl [Value.int .i64 f1, .int .i64 f2, .int .i64 f3, .int .i64 f4] _ (by rintro W ⟨q, rfl⟩; exact HFC.out) Try.underlying31 rfl (by kernel_rfl) ?_; go_simp; go_big_quiet_on)
                        | (go_big_quiet_want; refine quiet_load_at 31 _ rfl _ rfl [Value.int .i64 ka, .int .i64 kb, .int .i64 kc, .int .i64 kd] _ (by rintro W ⟨q, rfl⟩; exact HKC.out) Try.underlying31 rfl (by kernel_rfl) ?_; go_simp; go_big_quiet_on)
                        | (go_big_quiet_want; refine quiet_eq_rg _ _ rfl ⟨f1, f2, f3, f4⟩ ⟨ka, kb, kc, kd⟩ rfl rfl ?_; simp only [HEF.out, decide_true]; go_simp; go_big_quiet_on)
                        | (go_big_quiet_step (fail)))
                      refine wpQuiet_nil ?_
                      rintro _ ⟨nq, rfl⟩
                      go_wp2_with fail
                      go_meet
                      exact ⟨rfl, nq, rfl⟩
                      -- ]]Q1
                    · have hcb : cb = false := by rw [HCB.out]; exact decide_eq_false (fun e => ef (HIFF.out.2 e).2)
                      have HEF := Lib.hid ef
                      clear ef es
                      subst hcb
                      -- [[Q2
                      refine wp_region_quiet_lit (by kernel_rfl) (by kernel_rfl) ?_
                      repeat (first
                        | (go_big_quiet_want; refine quiet_load_at 31 _ rfl _ rfl [Value.int .i64 f1, .int .i64 f2, .int .i64 f3, .int .i64 f4] _ (by rintro W ⟨q, rfl⟩; exact HFC.out) Try.underlying31 rfl (by kernel_rfl) ?_; go_simp; go_big_quiet_on)
                        | (go_big_quiet_want; refine quiet_load_at 31 _ rfl _ rfl [Value.int .i64 ka, .int .i64 kb, .int .i64 kc, .int .i64 kd] _ (by rintro W ⟨q, rfl⟩; exact HKC.out) Try.underlying31 rfl (by kernel_rfl) ?_; go_simp; go_big_quiet_on)
                        | (go_big_quiet_want; refine quiet_eq_rg _ _ rfl ⟨f1, f2, f3, f4⟩ ⟨ka, kb, kc, kd⟩ rfl rfl ?_; simp only [HEF.out, decide_false]; go_simp; go_big_quiet_on)
                        | (go_big_quiet_step (fail)))
                      refine wpQuiet_nil ?_
                      rintro _ ⟨nq, rfl⟩
                      go_wp2_with fail
                      go_meet
                      exact ⟨rfl, nq, rfl⟩
                      -- ]]Q2
                  · have esb : (s == ws) = false := by simpa using es
                    have hcb : cb = false := by rw [HCB.out]; exact decide_eq_false (fun e => es (HIFF.out.2 e).1)
                    clear es
                    subst hcb
                    -- [[Q3
                    refine wp_region_quiet_lit (by kernel_rfl) (by kernel_rfl) ?_
                    repeat (first
                      | (go_big_quiet_step (fail)))
                    refine wpQuiet_nil ?_
                    rintro _ ⟨nq, rfl⟩
                    go_wp2_with fail
                    go_meet
                    exact ⟨rfl, nq, rfl⟩
                    -- ]]Q3
              case rest =>
                obtain ⟨rfl, nq, rfl⟩ := hcut
                clear HO HB
                have HF4 : Hid (Below wr.heap.size wr (wc.drewN nq) ∧ (wc.drewN nq).rangeAt p 0 (Rg.cells ⟨xa, xb, xc, xd⟩) ∧ (wc.drewN nq).rangeAt q 0 (Rg.cells ⟨ya, yb, yc, yd⟩) ∧ (wc.drewN nq).rangeAt bx 0 (Rn.cells ⟨⟨pos, lst, kc, kd⟩, ⟨ka, kb, kc, kd⟩, ws⟩) ∧ (wc.drewN nq).there bx 0 9 ∧ bx < (wc.drewN nq).heap.size ∧ wr.heap.size ≤ bx) := Lib.hid ⟨below_drewN' HF3.out.1 nq, HF3.out.2⟩
                have HO4 : Hid ((wc.drewN nq).ownsRow w.heap.size 59 9 (.slice A7 N c7) N (runCells rs)) := HO3
                have HB4 : Hid (Below w.heap.size w (wc.drewN nq)) := Lib.hid (below_drewN' (HBR.out.trans (HF3.out.1.mono HBR.out.size)) nq)
                clear HF3 HO3
                generalize wc.drewN nq = W4 at *
                go_upto_if 105 with fail
                go_cut [7] from 26 to 133 (fun s7 wx => ∃ rs', Hid (Runs l m rs' (outP ⟨xa, xb, xc, xd⟩ ⟨ya, yb, yc, yd⟩ self i k out from_) (whoP ⟨xa, xb, xc, xd⟩ ⟨ya, yb, yc, yd⟩ self i k)) ∧ Hid (wx.ownsRow w.heap.size 59 9 s7 rs'.length (runCells rs')) ∧ Hid (Below w.heap.size w wx) ∧ Hid (wx.rangeAt p 0 (Rg.cells ⟨xa, xb, xc, xd⟩) ∧ wx.rangeAt q 0 (Rg.cells ⟨ya, yb, yc, yd⟩) ∧ wx.rangeAt bx 0 (Rn.cells ⟨⟨pos, lst, kc, kd⟩, ⟨ka, kb, kc, kd⟩, ws⟩)))
                case first =>
                  cases cb
                  · -- [[E1
                    have HNE : Hid (whoP ⟨xa, xb, xc, xd⟩ ⟨ya, yb, yc, yd⟩ self i k ≠ from_) := Lib.hid (of_decide_eq_false HCB.out.symm)
                    go_wp2_with (first
                      | (refine wpList_load_mid rfl 59 _ rfl bx 0 rfl [.int .i64 pos, .int .i64 lst, .int .i64 kc, .int .i64 kd, .int .i64 ka, .int .i64 kb, .int .i64 kc, .int .i64 kd, .int .i64 ws] _ HF4.out.2.2.2.1 Try.underlying59 rfl (by kernel_rfl) ?_)
                      | (at_builtin; refine app_run _ rfl (.tmp 114) (.tmp 116) rfl w.heap.size _ N (runCells rs) rfl (HO4.out.kept (World.grownBy_alloc W4 _ none) (by cases (Value.slice A7 N c7).ownBlock <;> simp)) _ _ _ ⟨⟨pos, lst, kc, kd⟩, ⟨ka, kb, kc, kd⟩, ws⟩ rfl (reads_newS W4 (Rn.cells ⟨⟨pos, lst, kc, kd⟩, ⟨ka, kb, kc, kd⟩, ws⟩) _ 9 1 rfl) (by omega) (by rw [alloc_size]; have := HB4.out.size; omega) ?_; intro v2 w4 ho2 hg2))
                    go_meet
                    have hgr := World.grownBy_alloc W4 (.cells (Rn.cells ⟨⟨pos, lst, kc, kd⟩, ⟨ka, kb, kc, kd⟩, ws⟩).toArray 59) none
                    have hne : ∀ b, wr.heap.size ≤ b → some b ≠ (Value.slice A7 N c7).ownBlock := fun b hb e => by have := (HLT.out b e.symm).2; omega
                    refine ⟨rs ++ [⟨⟨pos, lst, kc, kd⟩, ⟨ka, kb, kc, kd⟩, ws⟩], Lib.hid ?_, Lib.hid ?_, Lib.hid ((HB4.out.alloc HB4.out.size _).grown hg2 (by rw [alloc_size]; have := HB4.out.size; omega) (fun b hb => (HLT.out b hb).1)), Lib.hid ⟨?_, ?_, ?_⟩⟩
                    · have := runs_next HQ1.out HRS.out HX.out HY.out HNE.out
                      rw [HTB.out, HPK.out, HWS.out, pieceP, HPK.out] at this
                      simp only at this
                      rw [← HMAX.out, ← HMIN.out] at this
                      exact this
                    · rw [List.length_append, HN.out]
                      have : runCells (rs ++ [⟨⟨pos, lst, kc, kd⟩, ⟨ka, kb, kc, kd⟩, ws⟩]) = runCells rs ++ Rn.cells ⟨⟨pos, lst, kc, kd⟩, ⟨ka, kb, kc, kd⟩, ws⟩ := by simp [runCells]
                      rw [this]
                      exact ho2
                    · exact grown_range hg2 (World.rangeAt_alloc HF4.out.2.1 _) (hne p hp0)
                    · exact grown_range hg2 (World.rangeAt_alloc HF4.out.2.2.1 _) (hne q hq0)
                    · exact grown_range hg2 (World.rangeAt_alloc HF4.out.2.2.2.1 _) (hne bx HF4.out.2.2.2.2.2.2)
                    -- ]]E1
                  · -- [[E2
                    have HEQ : Hid (whoP ⟨xa, xb, xc, xd⟩ ⟨ya, yb, yc, yd⟩ self i k = from_) := Lib.hid (of_decide_eq_true HCB.out.symm)
                    obtain ⟨L, rfl⟩ : ∃ L, N = L + 1 := by
                      rcases Nat.eq_zero_or_pos N with h0 | h0
                      · subst h0
                        have hrs0 : rs = [] := List.eq_nil_of_length_eq_zero HN.out
                        have he := HEQ.out
                        rcases HI.out.fr with ⟨_, e⟩ | ⟨p', r', e1, _⟩
                        · rw [e] at he; simp only [whoP] at he; split at he <;> omega
                        · have : out = [] := by rw [← HRS.out.out, hrs0]; rfl
                          rw [this] at e1; simp at e1
                      · exact ⟨N - 1, by omega⟩
                    obtain rfl : sl = (L : Int) := by have := HSL.out; omega
                    obtain ⟨g, c, e, hgc, hgm, hgb, hgl, hgo⟩ := own_head (Or.inl HO4.out) (by omega)
                    injection e with e1 e2 e3
                    subst e1 e3
                    obtain ⟨ro, rl, HRO⟩ : ∃ ro rl, Hid (rs = ro ++ [rl] ∧ ro.length = L) := by
                      rcases List.eq_nil_or_concat rs with h | ⟨ro, rl, h⟩
                      · have := HN.out; rw [h] at this; simp at this
                      · refine ⟨ro, rl, Lib.hid ⟨by rw [h, List.concat_eq_append], ?_⟩⟩
                        have := HN.out; rw [h, List.length_concat] at this; omega
                    have HGO := Lib.hid hgo
                    have HGB := Lib.hid hgb
                    obtain ⟨g1, g2⟩ := own_cell (j := L * 9 + 1) (u := .int .i64 rl.r.b) hgo (by
                      have hrl : rs[L]? = some rl := by rw [HRO.out.1, ← HRO.out.2]; simp
                      exact flat_get Rn.cells_length hrl 1 (by omega))
                    have hgx : (bx = g) = False := eq_false (by have := (HLT.out g rfl).2; have := HF4.out.2.2.2.2.2.2; omega)
                    have b1 : W4.cell? ⟨bx, 1, none⟩ = some (.int .i64 lst) := HF4.out.2.2.2.1 1 _ rfl
                    clear hgo hgb
                    go_wp2_with fail
                    go_meet
                    have hne : ∀ b, wr.heap.size ≤ b → g ≠ b := fun b hb e => by have := (HLT.out g rfl).2; omega
                    refine ⟨ro ++ [⟨⟨rl.r.a, lst, rl.r.c, rl.r.d⟩, rl.f, rl.s⟩], Lib.hid ?_, Lib.hid ?_, Lib.hid (HB4.out.setCell HGB.out _), Lib.hid ⟨?_, ?_, ?_⟩⟩
                    · have h1 := HRS.out
                      rw [HRO.out.1] at h1
                      have := runs_longer h1 HEQ.out
                      simp only at this
                      rw [← HMIN.out] at this
                      exact this
                    · have h1 := own_setCell HGO.out (j := L * 9 + 1) (by omega) (.int .i64 lst)
                      rw [HRO.out.1] at h1
                      have h2 := flat_set_last Rn.cells_length ro rl 1 (.int .i64 lst)
                      rw [HRO.out.2] at h2
                      rw [runCells, h2, show rl.cells.set 1 (.int .i64 lst) = Rn.cells ⟨⟨rl.r.a, lst, rl.r.c, rl.r.d⟩, rl.f, rl.s⟩ from rfl] at h1
                      rw [List.length_append, HRO.out.2, runCells, List.flatMap_append]
                      simpa using h1
                    · exact range_setCell_other HF4.out.2.1 (hne p hp0) _
                    · exact range_setCell_other HF4.out.2.2.1 (hne q hq0) _
                    · exact range_setCell_other HF4.out.2.2.2.1 (hne bx HF4.out.2.2.2.2.2.2) _
                    -- ]]E2
                case rest =>
                  obtain ⟨rs', HRN, HON, HBN, HFN⟩ := hcut
                  have b1 : wc.cell? ⟨bx, 1, none⟩ = some (.int .i64 lst) := HFN.out.2.2 1 _ rfl
                  have pc1 : wc.cell? ⟨p, 1, none⟩ = some (.int .i64 xb) := HFN.out.1 1 _ rfl
                  have qc1 : wc.cell? ⟨q, 1, none⟩ = some (.int .i64 yb) := HFN.out.2.1 1 _ rfl
                  by_cases ex : xb = lst
                  · have exb : (xb == lst) = true := by simpa using ex
                    by_cases ey : yb = lst
                    · have eyb : (yb == lst) = true := by simpa using ey
                      have EX := Lib.hid ex
                      have EY := Lib.hid ey
                      clear ex ey
                      -- [[Z1
                      go_wp2
                      go_roundg ((n1 - (i + 1)) + (n2 - (k + 1)))
                      case measure => omega
                      case rel =>
                        have HS := minv_step HQ1.out HQ2.out HI.out HX.out HY.out
                        have e1 : nextI ⟨xa, xb, xc, xd⟩ ⟨ya, yb, yc, yd⟩ i = i + 1 := by have := HMIN.out; simp only [nextI]; rw [if_pos (by have := EX.out; omega)]
                        have e2 : nextK ⟨xa, xb, xc, xd⟩ ⟨ya, yb, yc, yd⟩ k = k + 1 := by have := HMIN.out; simp only [nextK]; rw [if_pos (by have := EY.out; omega)]
                        rw [e1, e2] at HS
                        have h3 := HS.hik
                        rw [HL1.out, HL2.out] at h3
                        exact ⟨_, _, i + 1, k + 1, rs', Lib.hid HS, HRN, rfl, by omega, by omega, h3, by go_num, by go_num, HON, HBN⟩
                      -- ]]Z1
                    · have eyb : (yb == lst) = false := by simpa using ey
                      have EX := Lib.hid ex
                      have EY := Lib.hid ey
                      clear ex ey
                      -- [[Z2
                      go_wp2
                      go_roundg ((n1 - (i + 1)) + (n2 - (k)))
                      case measure => omega
                      case rel =>
                        have HS := minv_step HQ1.out HQ2.out HI.out HX.out HY.out
                        have e1 : nextI ⟨xa, xb, xc, xd⟩ ⟨ya, yb, yc, yd⟩ i = i + 1 := by have := HMIN.out; simp only [nextI]; rw [if_pos (by have := EX.out; omega)]
                        have e2 : nextK ⟨xa, xb, xc, xd⟩ ⟨ya, yb, yc, yd⟩ k = k := by have := HMIN.out; simp only [nextK]; rw [if_neg (by have := EY.out; omega)]
                        rw [e1, e2] at HS
                        have h3 := HS.hik
                        rw [HL1.out, HL2.out] at h3
                        exact ⟨_, _, i + 1, k, rs', Lib.hid HS, HRN, rfl, by omega, by omega, h3, by go_num, by go_num, HON, HBN⟩
                      -- ]]Z2
                  · have exb : (xb == lst) = false := by simpa using ex
                    have ey : yb = lst := by have := HMIN.out; omega
                    have eyb : (yb == lst) = true := by simpa using ey
                    have EX := Lib.hid ex
                    have EY := Lib.hid ey
                    clear ex ey
                    -- [[Z3
                    go_wp2
                    go_roundg ((n1 - (i)) + (n2 - (k + 1)))
                    case measure => omega
                    case rel =>
                      have HS := minv_step HQ1.out HQ2.out HI.out HX.out HY.out
                      have e1 : nextI ⟨xa, xb, xc, xd⟩ ⟨ya, yb, yc, yd⟩ i = i := by have := HMIN.out; simp only [nextI]; rw [if_neg (by have := EX.out; omega)]
                      have e2 : nextK ⟨xa, xb, xc, xd⟩ ⟨ya, yb, yc, yd⟩ k = k + 1 := by have := HMIN.out; simp only [nextK]; rw [if_pos (by have := EY.out; omega)]
                      rw [e1, e2] at HS
                      have h3 := HS.hik
                      rw [HL1.out, HL2.out] at h3
                      exact ⟨_, _, i, k + 1, rs', Lib.hid HS, HRN, rfl, by omega, by omega, h3, by go_num, by go_num, HON, HBN⟩
                    -- ]]Z3
    · obtain ⟨e1, _, _⟩ := minv_done HI.out (by have := HL1.out; omega)
      have HOUT := Lib.hid e1
      clear e1 hik
      obtain ⟨N, HN⟩ : ∃ N, Hid (rs.length = N) := ⟨_, Lib.hid rfl⟩
      have HON : Hid (out.length = N) := Lib.hid (by rw [← HRS.out.out, List.length_map, HN.out])
      have hN : N ≤ 128 := by have := HI.out.len; have := HON.out; omega
      have HO3 : Hid (wr.ownsRow w.heap.size 59 9 u7 N (runCells rs)) := Lib.hid (by have := HO.out; rwa [HN.out] at this)
      obtain ⟨A7, c7, rfl, hrc, hrm, hrd⟩ := Owns.form (Or.inl HO3.out)
      have HRD := Lib.hid hrd
      clear hrd HO
      by_cases h64 : 64 < N
      · have h64i : (64 : Int) < (N : Int) := by omega
        have HE : Hid (mergeR l m self = l) := Lib.hid (by unfold mergeR; rw [← HOUT.out, HON.out, if_neg (by omega)])
        -- [[Y1
        go_wp2_with (first
          | (refine wpList_unguard rfl ?_)
          | (go_at_call 33; ((with_reducible refine (HCL.out _ HB.out).mono ?_); rintro e w2 ⟨A3, c3, rfl, hc3, hm3, hr3, hb3⟩)))
        go_ret
        rw [HE.out]
        exact ⟨A3, c3, rfl, hc3, hm3, hr3, HB.out.trans (hb3.mono HB.out.size)⟩
        -- ]]Y1
      · have h64i : decide ((64 : Int) < (N : Int)) = false := by simp; omega
        have HE : Hid (mergeR l m self = out) := Lib.hid (by
          have hb : soundL l = true ∧ soundL m = true ∧ (mergeL l m self).length ≤ 64 := ⟨HQ1.out, HQ2.out, by rw [← HOUT.out, HON.out]; omega⟩
          unfold mergeR
          rw [if_pos hb, ← HOUT.out])
        go_wp2_with (refine wpList_unguard rfl ?_)
        obtain ⟨W5, rfl⟩ : ∃ W, W = wr := ⟨wr, rfl⟩
        go_loopw [6, 141] (fun v jv ww => ∃ j : Nat, j ≤ N ∧ jv = .int .i64 j ∧ Hid (Owns ww W5.heap.size 31 4 v j (rowCells (out.take j))) ∧ Hid (Below W5.heap.size W5 ww)) (fun _ jv _ => N - (intOf jv).toNat)
        case atStart => exact ⟨0, Nat.zero_le _, rfl, Lib.hid (Owns.nil_ _ _ _ _), Lib.hid (Below.refl _ _)⟩
        case round =>
          obtain ⟨j, hj, rfl, HV, HBJ⟩ := hrel
          by_cases hjt : j < N
          · refine code_hide (fun Q0 HQ0 => ?_)
            obtain ⟨z, hz⟩ : ∃ z, rs[j]? = some z := ⟨_, List.getElem?_eq_getElem (by have := HN.out; omega)⟩
            have HZO : Hid (out[j]? = some z.r) := Lib.hid (by rw [← HRS.out.out, List.getElem?_map, hz]; rfl)
            obtain ⟨ad, rfl, hab, hzc⟩ := flat_reads Rn.cells_length (HRD.out.below HBJ.out) hz hjt
            obtain ⟨⟨z1, z2, z3, z4⟩, ⟨z5, z6, z7, z8⟩, z9⟩ := z
            have HZC := Lib.hid hzc
            clear hzc hz
            go_upto_region 24 with (refine wpList_load_at rfl 59 _ rfl _ rfl [Value.int .i64 z1, .int .i64 z2, .int .i64 z3, .int .i64 z4, .int .i64 z5, .int .i64 z6, .int .i64 z7, .int .i64 z8, .int .i64 z9] _ HZC.out Try.underlying59 rfl (by kernel_rfl) ?_)
            have HX7 : Hid ((wr.alloc (.cells [Value.int .i64 z1, .int .i64 z2, .int .i64 z3, .int .i64 z4, .int .i64 z5, .int .i64 z6, .int .i64 z7, .int .i64 z8, .int .i64 z9].toArray 59)).rangeAt wr.heap.size 0 (Rg.cells ⟨z1, z2, z3, z4⟩)) := Lib.hid fun i v hv => by
              refine range_new wr [Value.int .i64 z1, .int .i64 z2, .int .i64 z3, .int .i64 z4, .int .i64 z5, .int .i64 z6, .int .i64 z7, .int .i64 z8, .int .i64 z9] _ i v ?_
              rcases i with _ | _ | _ | _ | i
              · exact hv
              · exact hv
              · exact hv
              · exact hv
              · simp [Rg.cells] at hv
            have HV7 : Hid (Owns (wr.alloc (.cells [Value.int .i64 z1, .int .i64 z2, .int .i64 z3, .int .i64 z4, .int .i64 z5, .int .i64 z6, .int .i64 z7, .int .i64 z8, .int .i64 z9].toArray 59)) W5.heap.size 31 4 u6 j (rowCells (out.take j))) := Lib.hid (HV.out.alloc _)
            have HB7 : Hid (Below W5.heap.size W5 (wr.alloc (.cells [Value.int .i64 z1, .int .i64 z2, .int .i64 z3, .int .i64 z4, .int .i64 z5, .int .i64 z6, .int .i64 z7, .int .i64 z8, .int .i64 z9].toArray 59))) := Lib.hid (HBJ.out.alloc HBJ.out.size _)
            clear HV HZC HBJ
            simp only [List.toArray] at HX7 HV7 HB7
            generalize wr.alloc _ = W7 at *
            generalize wr.heap.size = b7 at *
            go_wp2_with (first
              | (refine wpList_load_mid rfl 31 _ rfl b7 0 rfl [Value.int .i64 z1, .int .i64 z2, .int .i64 z3, .int .i64 z4] _ HX7.out Try.underlying31 rfl (by kernel_rfl) ?_)
              | (at_builtin; refine app_ranges _ rfl (.tmp 145) (.tmp 148) rfl W5.heap.size _ j _ rfl (HV7.out.alloc _) _ _ 1 _ (rowCells [⟨z1, z2, z3, z4⟩]) rfl (reads_newRs W7 [⟨z1, z2, z3, z4⟩] _) (rowCells_one _) (by omega) (le_alloc HB7.out.size) ?_; intro v2 w4 ho2 hb2 hr2))
            refine hide_out HQ0 ?_
            go_step
            go_roundw
            case rel =>
              refine ⟨j + 1, by omega, by go_num, Lib.hid ?_, Lib.hid ((HB7.out.alloc HB7.out.size _).trans hb2)⟩
              rw [List.take_add_one, HZO.out, rowCells_append]; exact ho2
            case measure => simp [intOf]; omega
          · obtain rfl : N = j := by omega
            have ho := HV.out
            rw [List.take_of_length_le (by have := HON.out; omega)] at ho
            obtain ⟨A2, c2', hv2, hc2, hm2, hrd⟩ := ho.form
            subst hv2
            have HC2 := Lib.hid hc2
            have HRD2 := Lib.hid hrd
            clear hc2 hrd ho HV
            go_wp2
            go_ret
            rw [HE.out]
            refine ⟨A2, c2', ?_, by rw [HON.out]; exact HC2.out, hm2, by rw [HON.out]; exact HRD2.out, HB.out.trans (HBJ.out.mono HB.out.size)⟩
            rw [HON.out] <;> rfl
end
end Go.Proofs.Ytbgnmkjjfaepiaa
