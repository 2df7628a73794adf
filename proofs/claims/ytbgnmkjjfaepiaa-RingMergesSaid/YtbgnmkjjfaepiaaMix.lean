import Derived.Test.YtbgnmkjjfaepiaaMergePlain
import Derived.Test.YtbgnmkjjfaepiaaOwnSet
import Derived.OneCell
namespace Go.Proofs.Ytbgnmkjjfaepiaa
open Go.RowKit
set_option linter.unusedVariables false

/-- A range's four cells. -/
theorem cells4 {W : World} {ad : Addr} {r : Rg} (h : ∀ j v, r.cells[j]? = some v → W.cell? (ad.add j) = some v) :
    W.cell? ad = some (.int .i64 r.a) ∧ W.cell? ⟨ad.block, ad.off + 1, none⟩ = some (.int .i64 r.b) ∧ W.cell? ⟨ad.block, ad.off + 2, none⟩ = some (.int .i64 r.c) ∧ W.cell? ⟨ad.block, ad.off + 3, none⟩ = some (.int .i64 r.d) := by
  have h0 := h 0 _ rfl
  have h1 := h 1 _ rfl
  have h2 := h 2 _ rfl
  have h3 := h 3 _ rfl
  rw [add1 _ _ (by omega)] at h1 h2 h3
  exact ⟨by simpa [Addr.add] using h0, h1, h2, h3⟩
theorem rowCells_set1 (o : List Rg) (p : Rg) (last : Int) : (rowCells (o ++ [p])).set (o.length * 4 + 1) (.int .i64 last) = rowCells (o ++ [⟨p.a, last, p.c, p.d⟩]) := by
  rw [rowCells_append, rowCells_append, List.set_append_right _ _ (by rw [rowCells_length]; omega), rowCells_length]
  congr 1
  rw [show o.length * 4 + 1 - o.length * 4 = 1 by omega]
  rfl

theorem next_le (x y : Rg) (i k : Nat) : i ≤ nextI x y i ∧ k ≤ nextK x y k := by unfold nextI nextK; exact ⟨by split <;> omega, by split <;> omega⟩
theorem own_setCells_other {base size n b : Nat} {e : TypeId} {v : Value} {xs : List Value} (hb : v.ownBlock ≠ some b) : ∀ (vs : List Value) (o : Nat) {w : World}, w.ownsRow base e size v n xs → (w.setCells b o vs).ownsRow base e size v n xs
  | [], _, _, h => h
  | u :: vs, o, w, h => own_setCells_other hb vs (o + 1) (ownsRow_setCell_other h (by simpa using hb) u)

section
variable (w : World) (A1 A2 : Option Addr) (n1 c1 n2 c2 : Nat) (l m : List Rg) (self : Int)
  (hr1 : Reads w w.heap.size 4 A1 n1 (rowCells l)) (hl1 : l.length = n1)
  (hr2 : Reads w w.heap.size 4 A2 n2 (rowCells m)) (hl2 : m.length = n2)
include hr1 hl1 hr2 hl2

/-- A row and a Boolean are handed back. -/
def RetRowB (w : World) (l : List Rg) (b : Bool) (e : Ending) (w' : World) : Prop :=
  ∃ A c, e = .returned (.tuple #[.slice A l.length c, .bool b]) ∧ l.length ≤ c ∧ c ≤ maxLen ∧ Reads w' w'.heap.size 4 A l.length (rowCells l) ∧ Below w.heap.size w w'

set_option maxRecDepth 100000 in
set_option maxHeartbeats 8000000 in
theorem mix_any (sl : soundL l = true) (sm : soundL m = true) :
    Calls Try.prog 34 #[.slice A1 n1 c1, .slice A2 n2 c2, .int .i64 self, .bool false] w (RetRowB w (mergeL l m self) (decide ((mergeL l m self).length ≤ 64))) := by
  have HR1 := Lib.hid hr1
  have HR2 := Lib.hid hr2
  have HL1 := Lib.hid hl1
  have HL2 := Lib.hid hl2
  have h641 := (sound_parts sl).2
  have h642 := (sound_parts sm).2
  have n164 : n1 ≤ 64 := by omega
  have n264 : n2 ≤ 64 := by omega
  have SL := Lib.hid sl
  have SM := Lib.hid sm
  have HSTART := Lib.hid (minv_start (self := self) sl sm)
  have HPOS : Hid (posP l m 0 0 = 0) := by
    have := HSTART.out.so
    rw [soundGo] at this; injection this with this; exact Lib.hid this.symm
  clear hr1 hl1 hr2 hl2 sl sm h641 h642
  go_enter Try.func34, Try.ntmps34
  go_wp2
  go_loopw [10, 11, 12, 13, 14] (fun v fr at_ i k wr => ∃ (out : List Rg) (from_ : Int) (i0 k0 i1 k1 : Nat) (pos : Int), Hid (MInv l m self i0 k0 out from_) ∧ Hid (pos = posP l m i0 k0) ∧ 0 ≤ pos ∧ pos ≤ 4294967296 ∧ i1 ≤ i0 ∧ k1 ≤ k0 ∧ i0 ≤ 64 ∧ k0 ≤ 64
      ∧ fr = .int .i64 from_ ∧ at_ = .int .i64 pos ∧ i = .int .i64 i1 ∧ k = .int .i64 k1 ∧ Hid (wr.ownsRow w.heap.size 31 4 v out.length (rowCells out)) ∧ Hid (Below w.heap.size w wr)) (fun _ _ at_ _ _ _ => 4294967296 - (intOf at_).toNat)
  case atStart => exact ⟨[], -1, 0, 0, 0, 0, 0, HSTART, Lib.hid HPOS.out.symm, by omega, by omega, Nat.le_refl _, Nat.le_refl _, by omega, by omega, rfl, rfl, rfl, rfl, Lib.hid (World.ownsRow_nil _ _ _ _), Lib.hid (Below.refl _ _)⟩
  case round =>
    obtain ⟨out, from_, i0, k0, i1, k1, pos, HI, HP, hp0, hp1, hi1, hk1, hi64, hk64, rfl, rfl, rfl, rfl, HO, HB⟩ := hrel
    by_cases hlt : pos ≤ 4294967295
    · have hil : i0 < l.length := by
        rcases Nat.lt_or_ge i0 l.length with h | h
        · exact h
        · have := HP.out; unfold posP at this; rw [List.getElem?_eq_none h] at this; simp only at this; omega
      have hkl : k0 < m.length := HI.out.hik.1 hil
      obtain ⟨x, HX⟩ : ∃ x, Hid (l[i0]? = some x) := ⟨_, Lib.hid (List.getElem?_eq_getElem hil)⟩
      obtain ⟨y, HY⟩ : ∃ y, Hid (m[k0]? = some y) := ⟨_, Lib.hid (List.getElem?_eq_getElem hkl)⟩
      have hin : i0 < n1 := by have := HL1.out; omega
      have hkn : k0 < n2 := by have := HL2.out; omega
      clear hil hkl
      obtain ⟨ad1, rfl, hb1, hc1⟩ := (HR1.out.below HB.out).range HX.out hin
      obtain ⟨ad2, rfl, hb2, hc2⟩ := (HR2.out.below HB.out).range HY.out hkn
      have HC1 := Lib.hid hc1
      have HC2 := Lib.hid hc2
      clear hc1 hc2
      have hxp := HI.out.hl x HX.out
      have hyp := HI.out.hm y HY.out
      rw [← HP.out] at hxp hyp
      have hxs := sg_mem (sound_parts SL.out).1 x (List.mem_of_getElem? HX.out)
      have hys := sg_mem (sound_parts SM.out).1 y (List.mem_of_getElem? HY.out)
      obtain ⟨xa, xb, xc, xd⟩ := x
      obtain ⟨ya, yb, yc, yd⟩ := y
      simp only at hxp hyp hxs hys
      have hxo : 1 ≤ xc ∧ xc ≤ 5 ∧ 1 ≤ xd ∧ xd ≤ 1099511627776 := by have := hxs.2.2.2.2; simp [ownedL] at this; omega
      have hyo : 1 ≤ yc ∧ yc ≤ 5 ∧ 1 ≤ yd ∧ yd ≤ 1099511627776 := by have := hys.2.2.2.2; simp [ownedL] at this; omega
      obtain ⟨hxs1, hxs2, hxs3, hxs4, _⟩ := hxs
      obtain ⟨hys1, hys2, hys3, hys4, _⟩ := hys
      refine code_hide (fun Q0 HQ0 => ?_)
      go_wp2
      go_loop [13] (fun i => ∃ j : Nat, j ≤ i0 ∧ i = .int .i64 j) (fun i => i0 - (intOf i).toNat)
      case atStart => exact ⟨i1, hi1, rfl⟩
      case round =>
        obtain ⟨j, hj, rfl⟩ := hrel
        by_cases hji : j < i0
        · obtain ⟨x', hx'⟩ : ∃ x', l[j]? = some x' := ⟨_, List.getElem?_eq_getElem (by have := HL1.out; omega)⟩
          have hxb' := HI.out.pl j x' hji hx'
          rw [← HP.out] at hxb'
          obtain ⟨_, e', _, hc'⟩ := (HR1.out.below HB.out).range hx' (by omega)
          injection e' with e'
          subst e'
          obtain ⟨q0, q1, q2, q3⟩ := cells4 hc'
          clear hx' hc'
          go_wp2
          go_round
          case rel => exact ⟨j + 1, by omega, by go_num⟩
          case measure => simp [intOf]; omega
        · obtain rfl : i0 = j := by omega
          obtain ⟨q0, q1, q2, q3⟩ := cells4 HC1.out
          have hge : decide (xb < pos) = false := by simp; omega
          go_wp2
          clear q0 q1 q2 q3
          go_loop [14] (fun i => ∃ j : Nat, j ≤ k0 ∧ i = .int .i64 j) (fun i => k0 - (intOf i).toNat)
          case atStart => exact ⟨k1, hk1, rfl⟩
          case round =>
            obtain ⟨j, hj, rfl⟩ := hrel
            by_cases hji : j < k0
            · obtain ⟨x', hx'⟩ : ∃ x', m[j]? = some x' := ⟨_, List.getElem?_eq_getElem (by have := HL2.out; omega)⟩
              have hxb' := HI.out.pm j x' hji hx'
              rw [← HP.out] at hxb'
              obtain ⟨_, e', _, hc'⟩ := (HR2.out.below HB.out).range hx' (by omega)
              injection e' with e'
              subst e'
              obtain ⟨q0, q1, q2, q3⟩ := cells4 hc'
              clear hx' hc'
              go_wp2
              go_round
              case rel => exact ⟨j + 1, by omega, by go_num⟩
              case measure => simp [intOf]; omega
            · obtain rfl : k0 = j := by omega
              obtain ⟨q0, q1, q2, q3⟩ := cells4 HC2.out
              have hge2 : decide (yb < pos) = false := by simp; omega
              go_upto_region 13 with (refine wpList_load_at rfl 31 _ rfl _ rfl [Value.int .i64 xa, .int .i64 xb, .int .i64 xc, .int .i64 xd] _ HC1.out Try.underlying31 rfl (by kernel_rfl) ?_)
              have HB1 : Hid (Below w.heap.size w (wr.alloc (.cells #[.int .i64 xa, .int .i64 xb, .int .i64 xc, .int .i64 xd] 31))) := Lib.hid (HB.out.alloc HB.out.size _)
              have HO1 : Hid ((wr.alloc (.cells #[.int .i64 xa, .int .i64 xb, .int .i64 xc, .int .i64 xd] 31)).ownsRow w.heap.size 31 4 u10 out.length (rowCells out)) := Lib.hid (HO.out.kept (World.grownBy_alloc wr _ none) (by cases u10.ownBlock <;> simp))
              have HK1 : Hid (∀ j v, (Rg.mk xa xb xc xd).cells[j]? = some v → (wr.alloc (.cells #[.int .i64 xa, .int .i64 xb, .int .i64 xc, .int .i64 xd] 31)).cell? ((ad1.add (i0 * 4)).add j) = some v) := Lib.hid (range_below HC1.out ((Below.refl _ _).alloc (Nat.le_refl _) _) (by rw [block_of_add]; have := HB.out.size; omega))
              have HK2 : Hid (∀ j v, (Rg.mk ya yb yc yd).cells[j]? = some v → (wr.alloc (.cells #[.int .i64 xa, .int .i64 xb, .int .i64 xc, .int .i64 xd] 31)).cell? ((ad2.add (k0 * 4)).add j) = some v) := Lib.hid (range_below HC2.out ((Below.refl _ _).alloc (Nat.le_refl _) _) (by rw [block_of_add]; have := HB.out.size; omega))
              have HX5 : Hid ((wr.alloc (.cells #[.int .i64 xa, .int .i64 xb, .int .i64 xc, .int .i64 xd] 31)).rangeAt wr.heap.size 0 (Rg.cells ⟨xa, xb, xc, xd⟩) ∧ (wr.alloc (.cells #[.int .i64 xa, .int .i64 xb, .int .i64 xc, .int .i64 xd] 31)).there wr.heap.size 0 4) := Lib.hid ⟨range_new wr (Rg.cells ⟨xa, xb, xc, xd⟩) _, there_new wr (Rg.cells ⟨xa, xb, xc, xd⟩) _⟩
              have HG5 : Hid (w.heap.size ≤ wr.heap.size) := Lib.hid HB.out.size
              have HN5 : Hid (u10.ownBlock ≠ some wr.heap.size) := Lib.hid (by intro e; have := (HO.out.lt _ e).2; omega)
              have HM : Hid (w.heap.size ≤ (wr.alloc (.cells #[.int .i64 xa, .int .i64 xb, .int .i64 xc, .int .i64 xd] 31)).heap.size) := Lib.hid (by rw [alloc_size]; have := HB.out.size; omega)
              clear HC1 HC2 HO HB q0 q1 q2 q3 hge hge2
              generalize (wr.alloc (.cells #[.int .i64 xa, .int .i64 xb, .int .i64 xc, .int .i64 xd] 31)) = W1 at *
              generalize wr.heap.size = b5 at *
              obtain ⟨q0, q1, q2, q3⟩ := cells4 HK1.out
              obtain ⟨p0, p1, p2, p3⟩ := cells4 HK2.out
              simp only at q0 q1 q2 q3 p0 p1 p2 p3
              obtain ⟨lst, hmin⟩ : ∃ lst, (if yb < xb then yb else xb) = lst := ⟨_, rfl⟩
              have HMIN : Hid (lst = min xb yb) := Lib.hid (by rw [← hmin]; split <;> omega)
              go_quiet (fail)
              clear hmin
              have HB2 : Hid (Below w.heap.size w (W1.drewN nq)) := Lib.hid (below_drewN' HB1.out nq)
              have HO2 : Hid ((W1.drewN nq).ownsRow w.heap.size 31 4 u10 out.length (rowCells out)) := HO1
              have HK12 : Hid (∀ j v, (Rg.mk xa xb xc xd).cells[j]? = some v → (W1.drewN nq).cell? ((ad1.add (i0 * 4)).add j) = some v) := HK1
              have HK22 : Hid (∀ j v, (Rg.mk ya yb yc yd).cells[j]? = some v → (W1.drewN nq).cell? ((ad2.add (k0 * 4)).add j) = some v) := HK2
              have HX52 : Hid ((W1.drewN nq).rangeAt b5 0 (Rg.cells ⟨xa, xb, xc, xd⟩) ∧ (W1.drewN nq).there b5 0 4) := HX5
              have HM2 : Hid (w.heap.size ≤ (W1.drewN nq).heap.size) := HM
              clear HB1 HO1 HK1 HK2 HX5 HM q0 q1 q2 q3 p0 p1 p2 p3
              generalize W1.drewN nq = W2 at *
              have HB1 := HB2
              have HO1 := HO2
              have HK1 := HK12
              have HK2 := HK22
              have HX5 := HX52
              have HM := HM2
              clear HB2 HO2 HK12 HK22 HX52 HM2
              obtain ⟨q0, q1, q2, q3⟩ := cells4 HK1.out
              obtain ⟨p0, p1, p2, p3⟩ := cells4 HK2.out
              simp only at q0 q1 q2 q3 p0 p1 p2 p3
              go_upto_region 14 with fail
              have hy0 : (0 : Int) < yc := by omega
              have hlst : 0 ≤ lst ∧ lst ≤ 4294967295 := by have := HMIN.out; omega
              obtain ⟨hlst0, hlst1⟩ := hlst
              have hcase : (Hid (takeB ⟨xa, xb, xc, xd⟩ ⟨ya, yb, yc, yd⟩ self = true) ∧ (xc != self) = true ∧ (yc != self) = true ∧ decide (xd < yd) = true) ∨ Hid (takeB ⟨xa, xb, xc, xd⟩ ⟨ya, yb, yc, yd⟩ self = false) ∧ ((xc != self) = false ∨ ((xc != self) = true ∧ (yc != self) = false) ∨ ((xc != self) = true ∧ (yc != self) = true ∧ decide (xd < yd) = false)) := by
                unfold takeB
                by_cases t1 : xc = self
                · right; exact ⟨Lib.hid (by simp [t1]), .inl (by simp [t1])⟩
                by_cases t2 : yc = self
                · right; exact ⟨Lib.hid (by simp [t2]), .inr (.inl ⟨by simp [t1], by simp [t2]⟩)⟩
                by_cases t3 : xd < yd
                · left; exact ⟨Lib.hid (by simp [t1, t2, t3]), by simp [t1], by simp [t2], by simp [t3]⟩
                · right; exact ⟨Lib.hid (by simp [t3]), .inr (.inr ⟨by simp [t1], by simp [t2], by simp [t3]⟩)⟩
              rcases hcase with ⟨HT, t1, t2, t3⟩ | ⟨HT, t1 | ⟨t1, t2⟩ | ⟨t1, t2, t3⟩⟩
              · go_quiet (fail)
                have HB2 : Hid (Below w.heap.size w (W2.drewN nq)) := Lib.hid (below_drewN' HB1.out nq)
                have HO2 : Hid ((W2.drewN nq).ownsRow w.heap.size 31 4 u10 out.length (rowCells out)) := HO1
                have HK12 : Hid (∀ j v, (Rg.mk xa xb xc xd).cells[j]? = some v → (W2.drewN nq).cell? ((ad1.add (i0 * 4)).add j) = some v) := HK1
                have HK22 : Hid (∀ j v, (Rg.mk ya yb yc yd).cells[j]? = some v → (W2.drewN nq).cell? ((ad2.add (k0 * 4)).add j) = some v) := HK2
                have HX52 : Hid ((W2.drewN nq).rangeAt b5 0 (Rg.cells ⟨xa, xb, xc, xd⟩) ∧ (W2.drewN nq).there b5 0 4) := HX5
                have HM2 : Hid (w.heap.size ≤ (W2.drewN nq).heap.size) := HM
                clear HB1 HO1 HK1 HK2 HX5 HM q0 q1 q2 q3 p0 p1 p2 p3
                generalize W2.drewN nq = W4 at *
                have HB1 := HB2
                have HO1 := HO2
                have HK1 := HK12
                have HK2 := HK22
                have HX5 := HX52
                have HM := HM2
                clear HB2 HO2 HK12 HK22 HX52 HM2
                go_upto_region 17 with (first
                  | (refine wpList_load_at rfl 31 _ rfl _ rfl [Value.int .i64 ya, .int .i64 yb, .int .i64 yc, .int .i64 yd] _ HK2.out Try.underlying31 rfl (by kernel_rfl) ?_)
                  | (refine wpList_store_mid rfl 31 _ _ rfl b5 0 (Rg.cells ⟨ya, yb, yc, yd⟩).toArray rfl rfl HX5.out.2 (by kernel_rfl) (all_oneCell_toArray (Rg.cells_one _)) ?_))
                have HX3 : Hid ((W4.setCells b5 0 (Rg.cells ⟨ya, yb, yc, yd⟩)).rangeAt b5 0 (Rg.cells ⟨ya, yb, yc, yd⟩)) := Lib.hid (World.rangeAt_setCells_same W4 b5 0 _ HX5.out.2)
                have HB3 : Hid (Below w.heap.size w (W4.setCells b5 0 (Rg.cells ⟨ya, yb, yc, yd⟩))) := Lib.hid (Below.setCells _ HG5.out _ _ HB1.out)
                have HO3 : Hid ((W4.setCells b5 0 (Rg.cells ⟨ya, yb, yc, yd⟩)).ownsRow w.heap.size 31 4 u10 out.length (rowCells out)) := Lib.hid (own_setCells_other HN5.out _ _ HO1.out)
                have HM3 : Hid (w.heap.size ≤ (W4.setCells b5 0 (Rg.cells ⟨ya, yb, yc, yd⟩)).heap.size) := Lib.hid (by rw [size_setCells]; exact HM.out)
                clear HX5 HB1 HO1 HM HK1 HK2
                generalize W4.setCells b5 0 (Rg.cells ⟨ya, yb, yc, yd⟩) = W3 at *
                have c2 : W3.cell? ⟨b5, 2, none⟩ = some (.int .i64 yc) := HX3.out 2 _ rfl
                have c3 : W3.cell? ⟨b5, 3, none⟩ = some (.int .i64 yd) := HX3.out 3 _ rfl
                have HWHO : Hid (whoP ⟨xa, xb, xc, xd⟩ ⟨ya, yb, yc, yd⟩ self i0 k0 = 1000 + (k0 : Int)) := Lib.hid (by rw [whoP, HT.out]; rfl)
                by_cases hwf : 1000 + (k0 : Int) = from_
                · have hwb : (1000 + (k0 : Int) == from_) = true := by simpa using hwf
                  rcases HI.out.fr with ⟨_, e2⟩ | ⟨p, r, e1, _, _, _, _, _⟩
                  · omega
                  have HWF := Lib.hid hwf
                  clear hwf
                  obtain ⟨o, HOO⟩ : ∃ o, Hid (out = o ++ [p]) := by obtain ⟨o, ho⟩ := last_split e1; exact ⟨o, Lib.hid ho⟩
                  clear e1
                  obtain ⟨q, HQL⟩ : ∃ q, Hid (o.length = q) := ⟨_, Lib.hid rfl⟩
                  have HO4 : Hid (W3.ownsRow w.heap.size 31 4 u10 (q + 1) (rowCells out)) := Lib.hid (by have := HO3.out; rw [show out.length = q + 1 by rw [HOO.out, List.length_append, HQL.out]; rfl] at this; exact this)
                  obtain ⟨g, c, rfl, hgc, hgm, hgb, hgl, hgo⟩ := own_head (Or.inl HO4.out) (by omega)
                  have HGO := Lib.hid hgo
                  have HGB := Lib.hid hgb
                  have hq64 : q + 1 ≤ 128 := by have := HI.out.len; rw [HOO.out, List.length_append, HQL.out] at this; simp at this; omega
                  obtain ⟨f1, f2⟩ := own_cell (j := q * 4 + 1) (u := .int .i64 p.b) hgo (by
                    rw [HOO.out, rowCells_append, List.getElem?_append_right (by rw [rowCells_length, HQL.out]; omega), rowCells_length, HQL.out, show q * 4 + 1 - q * 4 = 1 by omega]; rfl)
                  clear hgo hgb
                  go_wp2
                  refine hide_out HQ0 ?_
                  go_step
                  go_roundw
                  case rel =>
                    have HS := minv_step SL.out SM.out HI.out HX.out HY.out
                    have HPN := pos_next SL.out SM.out HI.out HX.out HY.out
                    have hn := next_le ⟨xa, xb, xc, xd⟩ ⟨ya, yb, yc, yd⟩ i0 k0
                    have e3 : outP ⟨xa, xb, xc, xd⟩ ⟨ya, yb, yc, yd⟩ self i0 k0 out from_ = o ++ [⟨p.a, lst, p.c, p.d⟩] := by
                      rw [outP, if_pos (by rw [HWHO.out]; exact HWF.out), HOO.out, setLast_app, HMIN.out]
                    refine ⟨_, _, _, _, i0, k0, lst + 1, Lib.hid HS, Lib.hid (by rw [HPN.1, HMIN.out]), by omega, by omega, hn.1, hn.2, by have := HS.hi; have := HL1.out; omega, by have := HS.hk; have := HL2.out; omega, by rw [HWHO.out], rfl, rfl, rfl, Lib.hid ?_, Lib.hid (HB3.out.setCell HGB.out _)⟩
                    rw [e3, List.length_append, HQL.out, ← rowCells_set1, HQL.out, ← HOO.out]
                    exact own_setCell HGO.out (by omega) _
                  case measure => (have := HMIN.out; simp [intOf]; omega)
                · have hwb : (1000 + (k0 : Int) == from_) = false := by simpa using hwf
                  have HWF := Lib.hid hwf
                  clear hwf
                  have hq64 : out.length ≤ 128 := by have := HI.out.len; omega
                  go_wp2_with (at_builtin; refine app_ranges _ rfl (.tmp 110) (.tmp 118) rfl w.heap.size _ _ _ rfl (.inl (HO3.out.kept (World.grownBy_alloc W3 _ none) (by cases u10.ownBlock <;> simp))) _ _ 1 _ (rowCells [⟨pos, lst, yc, yd⟩]) rfl (reads_newRs W3 [⟨pos, lst, yc, yd⟩] _) (rowCells_one _) (by omega) (by rw [alloc_size]; have := HM3.out; omega) ?_; intro v2 w4 ho2 hb2 hr2)
                  refine hide_out HQ0 ?_
                  go_step
                  go_roundw
                  case rel =>
                    have HS := minv_step SL.out SM.out HI.out HX.out HY.out
                    have HPN := pos_next SL.out SM.out HI.out HX.out HY.out
                    have hn := next_le ⟨xa, xb, xc, xd⟩ ⟨ya, yb, yc, yd⟩ i0 k0
                    have hpp : pos = max xa ya := by have := HP.out; unfold posP at this; rw [HX.out, HY.out] at this; exact this
                    have e3 : outP ⟨xa, xb, xc, xd⟩ ⟨ya, yb, yc, yd⟩ self i0 k0 out from_ = out ++ [⟨pos, lst, yc, yd⟩] := by
                      rw [outP, if_neg (by rw [HWHO.out]; exact HWF.out), pieceP, pickP, HT.out, hpp, HMIN.out]; rfl
                    refine ⟨_, _, _, _, i0, k0, lst + 1, Lib.hid HS, Lib.hid (by rw [HPN.1, HMIN.out]), by omega, by omega, hn.1, hn.2, by have := HS.hi; have := HL1.out; omega, by have := HS.hk; have := HL2.out; omega, by rw [HWHO.out], rfl, rfl, rfl, Lib.hid ?_, Lib.hid ((HB3.out.alloc HM3.out _).trans hb2)⟩
                    rw [e3, List.length_append, rowCells_append]
                    exact hr2 (.inr (by omega))
                  case measure => (have := HMIN.out; simp [intOf]; omega)
              all_goals
                go_quiet (fail)
                have HB2 : Hid (Below w.heap.size w (W2.drewN nq)) := Lib.hid (below_drewN' HB1.out nq)
                have HO2 : Hid ((W2.drewN nq).ownsRow w.heap.size 31 4 u10 out.length (rowCells out)) := HO1
                have HK12 : Hid (∀ j v, (Rg.mk xa xb xc xd).cells[j]? = some v → (W2.drewN nq).cell? ((ad1.add (i0 * 4)).add j) = some v) := HK1
                have HK22 : Hid (∀ j v, (Rg.mk ya yb yc yd).cells[j]? = some v → (W2.drewN nq).cell? ((ad2.add (k0 * 4)).add j) = some v) := HK2
                have HX52 : Hid ((W2.drewN nq).rangeAt b5 0 (Rg.cells ⟨xa, xb, xc, xd⟩) ∧ (W2.drewN nq).there b5 0 4) := HX5
                have HM2 : Hid (w.heap.size ≤ (W2.drewN nq).heap.size) := HM
                clear HB1 HO1 HK1 HK2 HX5 HM q0 q1 q2 q3 p0 p1 p2 p3
                generalize W2.drewN nq = W3 at *
                have HB1 := HB2
                have HO1 := HO2
                have HK1 := HK12
                have HK2 := HK22
                have HX5 := HX52
                have HM := HM2
                clear HB2 HO2 HK12 HK22 HX52 HM2
                have HX3 : Hid (W3.rangeAt b5 0 (Rg.cells ⟨xa, xb, xc, xd⟩)) := Lib.hid HX5.out.1
                have HB3 := HB1
                have HO3 := HO1
                have HM3 := HM
                clear HB1 HO1 HM
                clear HX5 HK1 HK2
                have c2 : W3.cell? ⟨b5, 2, none⟩ = some (.int .i64 xc) := HX3.out 2 _ rfl
                have c3 : W3.cell? ⟨b5, 3, none⟩ = some (.int .i64 xd) := HX3.out 3 _ rfl
                have HWHO : Hid (whoP ⟨xa, xb, xc, xd⟩ ⟨ya, yb, yc, yd⟩ self i0 k0 = (i0 : Int)) := Lib.hid (by rw [whoP, HT.out]; rfl)
                by_cases hwf : (i0 : Int) = from_
                · have hwb : ((i0 : Int) == from_) = true := by simpa using hwf
                  rcases HI.out.fr with ⟨_, e2⟩ | ⟨p, r, e1, _, _, _, _, _⟩
                  · omega
                  have HWF := Lib.hid hwf
                  clear hwf
                  obtain ⟨o, HOO⟩ : ∃ o, Hid (out = o ++ [p]) := by obtain ⟨o, ho⟩ := last_split e1; exact ⟨o, Lib.hid ho⟩
                  clear e1
                  obtain ⟨q, HQL⟩ : ∃ q, Hid (o.length = q) := ⟨_, Lib.hid rfl⟩
                  have HO4 : Hid (W3.ownsRow w.heap.size 31 4 u10 (q + 1) (rowCells out)) := Lib.hid (by have := HO3.out; rw [show out.length = q + 1 by rw [HOO.out, List.length_append, HQL.out]; rfl] at this; exact this)
                  obtain ⟨g, c, rfl, hgc, hgm, hgb, hgl, hgo⟩ := own_head (Or.inl HO4.out) (by omega)
                  have HGO := Lib.hid hgo
                  have HGB := Lib.hid hgb
                  have hq64 : q + 1 ≤ 128 := by have := HI.out.len; rw [HOO.out, List.length_append, HQL.out] at this; simp at this; omega
                  obtain ⟨f1, f2⟩ := own_cell (j := q * 4 + 1) (u := .int .i64 p.b) hgo (by
                    rw [HOO.out, rowCells_append, List.getElem?_append_right (by rw [rowCells_length, HQL.out]; omega), rowCells_length, HQL.out, show q * 4 + 1 - q * 4 = 1 by omega]; rfl)
                  clear hgo hgb
                  go_wp2
                  refine hide_out HQ0 ?_
                  go_step
                  go_roundw
                  case rel =>
                    have HS := minv_step SL.out SM.out HI.out HX.out HY.out
                    have HPN := pos_next SL.out SM.out HI.out HX.out HY.out
                    have hn := next_le ⟨xa, xb, xc, xd⟩ ⟨ya, yb, yc, yd⟩ i0 k0
                    have e3 : outP ⟨xa, xb, xc, xd⟩ ⟨ya, yb, yc, yd⟩ self i0 k0 out from_ = o ++ [⟨p.a, lst, p.c, p.d⟩] := by
                      rw [outP, if_pos (by rw [HWHO.out]; exact HWF.out), HOO.out, setLast_app, HMIN.out]
                    refine ⟨_, _, _, _, i0, k0, lst + 1, Lib.hid HS, Lib.hid (by rw [HPN.1, HMIN.out]), by omega, by omega, hn.1, hn.2, by have := HS.hi; have := HL1.out; omega, by have := HS.hk; have := HL2.out; omega, by rw [HWHO.out], rfl, rfl, rfl, Lib.hid ?_, Lib.hid (HB3.out.setCell HGB.out _)⟩
                    rw [e3, List.length_append, HQL.out, ← rowCells_set1, HQL.out, ← HOO.out]
                    exact own_setCell HGO.out (by omega) _
                  case measure => (have := HMIN.out; simp [intOf]; omega)
                · have hwb : ((i0 : Int) == from_) = false := by simpa using hwf
                  have HWF := Lib.hid hwf
                  clear hwf
                  have hq64 : out.length ≤ 128 := by have := HI.out.len; omega
                  go_wp2_with (at_builtin; refine app_ranges _ rfl (.tmp 110) (.tmp 118) rfl w.heap.size _ _ _ rfl (.inl (HO3.out.kept (World.grownBy_alloc W3 _ none) (by cases u10.ownBlock <;> simp))) _ _ 1 _ (rowCells [⟨pos, lst, xc, xd⟩]) rfl (reads_newRs W3 [⟨pos, lst, xc, xd⟩] _) (rowCells_one _) (by omega) (by rw [alloc_size]; have := HM3.out; omega) ?_; intro v2 w4 ho2 hb2 hr2)
                  refine hide_out HQ0 ?_
                  go_step
                  go_roundw
                  case rel =>
                    have HS := minv_step SL.out SM.out HI.out HX.out HY.out
                    have HPN := pos_next SL.out SM.out HI.out HX.out HY.out
                    have hn := next_le ⟨xa, xb, xc, xd⟩ ⟨ya, yb, yc, yd⟩ i0 k0
                    have hpp : pos = max xa ya := by have := HP.out; unfold posP at this; rw [HX.out, HY.out] at this; exact this
                    have e3 : outP ⟨xa, xb, xc, xd⟩ ⟨ya, yb, yc, yd⟩ self i0 k0 out from_ = out ++ [⟨pos, lst, xc, xd⟩] := by
                      rw [outP, if_neg (by rw [HWHO.out]; exact HWF.out), pieceP, pickP, HT.out, hpp, HMIN.out]; rfl
                    refine ⟨_, _, _, _, i0, k0, lst + 1, Lib.hid HS, Lib.hid (by rw [HPN.1, HMIN.out]), by omega, by omega, hn.1, hn.2, by have := HS.hi; have := HL1.out; omega, by have := HS.hk; have := HL2.out; omega, by rw [HWHO.out], rfl, rfl, rfl, Lib.hid ?_, Lib.hid ((HB3.out.alloc HM3.out _).trans hb2)⟩
                    rw [e3, List.length_append, rowCells_append]
                    exact hr2 (.inr (by omega))
                  case measure => (have := HMIN.out; simp [intOf]; omega)
    · have hil : l.length ≤ i0 := by
        rcases Nat.lt_or_ge i0 l.length with h | h
        · have hk := HI.out.hik.1 h
          have := HI.out.hl _ (List.getElem?_eq_getElem h)
          have := sg_mem (sound_parts SL.out).1 l[i0] (List.getElem_mem h)
          have := HP.out
          omega
        · exact h
      obtain ⟨e1, _, e3⟩ := minv_done HI.out hil
      have hLn := HL1.out
      have hMn := HL2.out
      have e3' : (mergeL l m self).length ≤ 128 := by rw [← e1]; omega
      rw [e1] at HO
      obtain ⟨A, c, rfl, hc, hm, hrd⟩ := Owns.form (Or.inl HO.out)
      have HRD := Lib.hid hrd
      have HC := Lib.hid hc
      clear hrd hc hil e1 e3 hLn hMn HI HP HSTART
      generalize HG : mergeL l m self = o at *
      clear HG
      generalize HG : o.length = q at *
      have HQ := Lib.hid HG
      clear HG
      go_wp2
      go_ret2
      refine ⟨A, c, ?_, by rw [HQ.out]; exact HC.out, hm, by rw [HQ.out]; exact HRD.out, HB.out⟩
      rw [HQ.out]
      rw [show decide (q ≤ 64) = decide ((q : Int) ≤ 64) from decide_eq_decide.2 (by omega)]
      rfl
end
end Go.Proofs.Ytbgnmkjjfaepiaa
