import Derived.Test.YtbgnmkjjfaepiaaRingFind2
import Derived.Test.YtbgnmkjjfaepiaaRingFrame
namespace Go.Proofs.Ytbgnmkjjfaepiaa
open Go.RowKit
set_option linter.unusedVariables false


/-! ### slices.Clone at ranges; the remainder; a store into a row of one's own -/
set_option maxRecDepth 100000 in
set_option maxHeartbeats 4000000 in
theorem cloneR_any (A : Option Addr) (n c : Nat) (l : List Rg) (w : World) {B : Nat} (ha : Reads w B 4 A n (rowCells l)) (hB : B ≤ w.heap.size) (hl : l.length = n) (hn : n ≤ 4398046511104) :
    Calls Try.prog 33 #[.slice A n c] w fun e w' => ∃ v, e = .returned v ∧ w'.ownsRow w.heap.size 31 4 v n (rowCells l) ∧ Below w.heap.size w w' := by
  have hc := fun W : World => Lib.run_eql_slice_nil (P := Try.prog) W 22 31 A n c 0 0 Try.underlying22
  cases A with
  | none =>
    have hn0 : n = 0 := by
      rcases Nat.eq_zero_or_pos n with h | h
      · exact h
      · obtain ⟨_, h', _⟩ := ha.2 h; cases h'
    have hl0 : l = [] := List.eq_nil_of_length_eq_zero (by omega)
    subst hl0 hn0
    go_enter Try.func33, Try.ntmps33
    go_wp2
    go_ret
    exact ⟨_, rfl, World.ownsRow_nil _ _ _ _, Below.refl _ _⟩
  | some a =>
    go_enter Try.func33, Try.ntmps33
    go_wp2_with (at_builtin; refine app_ranges _ rfl (.tmp 5) (.tmp 6) rfl w.heap.size _ 0 [] rfl (.inl (World.ownsRow_made w #[] 0 (Nat.le_refl _) (Nat.zero_le _) rfl)) B _ n _ (rowCells l) rfl (ha.alloc hB _) (rowCells_one _) (by omega) (le_alloc (Nat.le_refl _)) ?_; intro v1 w1 ho1 hb1 hr1)
    go_ret
    refine ⟨v1, rfl, ?_, ((Below.refl _ _).alloc (Nat.le_refl _) _).trans hb1⟩
    have R := hr1 (.inl (World.ownsRow_made w #[] 0 (Nat.le_refl _) (Nat.zero_le _) rfl))
    simpa using R

theorem rowCells_at {l : List Rg} {j : Nat} {u : Value} (h : (rowCells l)[j]? = some u) : ∃ r, l[j / 4]? = some r ∧ r.cells[j % 4]? = some u := by
  have hj : j < l.length * 4 := by rw [← rowCells_length]; exact (List.getElem?_eq_some_iff.1 h).1
  have hg : l[j / 4]? = some l[j / 4] := List.getElem?_eq_getElem (by omega)
  have := rowCells_get hg (j % 4) (Nat.mod_lt _ (by omega))
  rw [show j / 4 * 4 + j % 4 = j by omega] at this
  exact ⟨_, hg, by rw [← this]; exact h⟩
theorem own_there {w : World} {B n k : Nat} {e : TypeId} {g c : Nat} {l : List Rg} (h : w.ownsRow B e 4 (.slice (some ⟨g, 0, none⟩) n c) n (rowCells l)) (hl : l.length = n) (hk : k < n) : w.there g (k * 4) 4 := fun j hj => by
  have hlt : k * 4 + j < (rowCells l).length := by rw [rowCells_length]; omega
  have hc := h.cells (g := g) rfl (k * 4 + j) _ (List.getElem?_eq_getElem hlt)
  have hadd : (⟨g, 0, none⟩ : Addr).add (k * 4 + j) = ⟨g, k * 4 + j, none⟩ := by unfold Addr.add; split <;> simp_all
  rw [hadd] at hc
  exact ⟨by rw [hc]; rfl, h.frozenAt _⟩
theorem own_set_aux {w w' : World} {n k g : Nat} {l : List Rg} (R : Reads w w.heap.size 4 (some ⟨g, 0, none⟩) n (rowCells l)) (hl : l.length = n) (hk : k < n) (r : Rg)
    (hin : w'.rangeAt g (k * 4) r.cells) (hout : ∀ j, j < k * 4 ∨ k * 4 + 4 ≤ j → w'.cell? ⟨g, j, none⟩ = w.cell? ⟨g, j, none⟩) (hz : w'.heap.size = w.heap.size) :
    Reads w' w'.heap.size 4 (some ⟨g, 0, none⟩) n (rowCells (l.set k r)) := by
  obtain ⟨ad, e1, hb, hc⟩ := R.2 (by omega)
  injection e1 with e1
  subst e1
  refine ⟨by rw [rowCells_length, List.length_set, hl], fun _ => ⟨_, rfl, by rw [hz]; exact hb, fun j u hu => ?_⟩⟩
  rw [Addr.add_mid, Nat.zero_add]
  obtain ⟨x, hx, hxu⟩ := rowCells_at hu
  by_cases hjk : j / 4 = k
  · rw [hjk, List.getElem?_set_self (by omega)] at hx
    injection hx with hx
    subst hx
    have := hin (j % 4) u hxu
    rwa [show k * 4 + j % 4 = j by omega] at this
  · rw [hout j (by omega)]
    rw [List.getElem?_set_ne (by omega)] at hx
    have h2 := rowCells_get hx (j % 4) (Nat.mod_lt _ (by omega))
    rw [show j / 4 * 4 + j % 4 = j by omega, hxu] at h2
    have := hc j u h2
    rwa [Addr.add_mid, Nat.zero_add] at this
theorem size_setCells (b : Nat) : ∀ (vs : List Value) (o : Nat) (w : World), (w.setCells b o vs).heap.size = w.heap.size
  | [], _, _ => rfl
  | v :: r, o, w => by
    rw [World.setCells, size_setCells b r]
    simp [World.setCell]
theorem own_set {w : World} {B n k : Nat} {e : TypeId} {g c : Nat} {l : List Rg} (h : w.ownsRow B e 4 (.slice (some ⟨g, 0, none⟩) n c) n (rowCells l)) (hl : l.length = n) (hk : k < n) (r : Rg) :
    Reads (w.setCells g (k * 4) r.cells) (w.setCells g (k * 4) r.cells).heap.size 4 (some ⟨g, 0, none⟩) n (rowCells (l.set k r)) :=
  own_set_aux (Reads.of_own h) hl hk r (World.rangeAt_setCells_same w g (k * 4) r.cells (own_there h hl hk))
    (fun j hj => World.cell?_setCells_out g r.cells (k * 4) w ⟨g, j, none⟩ (fun _ _ => hj)) (size_setCells g r.cells (k * 4) w)

def roundZ (k n : Int) : Int := if k.tmod n < 0 then k.tmod n + n else k.tmod n
theorem roundZ_bd (k n : Int) (hn : 0 < n) : 0 ≤ roundZ k n ∧ roundZ k n < n := by
  unfold roundZ
  have h1 := Int.tmod_lt_of_pos k hn
  have h2 := Int.lt_tmod_of_pos k hn
  split <;> omega
theorem round_any (k n : Int) (w : World) (hn : 0 < n) (hn1 : n ≤ 4611686018427387904) :
    Calls Try.prog 21 #[.int .i64 k, .int .i64 n] w fun e w' => e = .returned (.int .i64 (roundZ k n)) ∧ w = w' := by
  have h1 := Int.tmod_lt_of_pos k hn
  have h2 := Int.lt_tmod_of_pos k hn
  have hne : (n == 0) = false := by simp; omega
  by_cases hneg : k.tmod n < 0
  · have HE := Lib.hid (show roundZ k n = k.tmod n + n by unfold roundZ; rw [if_pos hneg])
    go_enter Try.func21, Try.ntmps21
    go_wp2
    go_ret
    exact ⟨ret_int HE.out.symm, rfl⟩
  · have HE := Lib.hid (show roundZ k n = k.tmod n by unfold roundZ; rw [if_neg hneg])
    go_enter Try.func21, Try.ntmps21
    go_wp2
    go_ret
    exact ⟨ret_int HE.out.symm, rfl⟩

theorem below_drewN' {B : Nat} {a w : World} (h : Below B a w) (n : Nat) : Below B a (w.drewN n) := ⟨h.os, h.tape, h.output, h.size, h.block⟩
/-! ### ring.Set -/
def setL (l : List Rg) (r : Rg) : List Rg × Int :=
  if soundL l = false then ([], 1) else
  match l.findIdx? (has r.a) with
  | none => ([], 4)
  | some k => if (l[k]?.getD zeroR).a = r.a ∧ (l[k]?.getD zeroR).b = r.b then (if ownedL r then (l.set k r, 0) else ([], 1)) else ([], 4)

section
variable (w : World) (A : Option Addr) (n c : Nat) (l : List Rg) (r : Rg) (hr : Reads w w.heap.size 4 A n (rowCells l)) (hw : ∀ r ∈ l, r.wf) (hl : l.length = n) (hn : n ≤ maxLen) (hn80 : n ≤ 1000)
include hr hw hl hn hn80

set_option maxRecDepth 100000 in
set_option maxHeartbeats 4000000 in
theorem set_any : Calls Try.prog 22 #[.slice A n c, r.val] w (RetRow w (setL l r).1 (setL l r).2) := by
  obtain ⟨ra, rb, rc, rd⟩ := r
  obtain ⟨q, HQ⟩ : ∃ q, Hid (soundL l = q) := ⟨_, Lib.hid rfl⟩
  obtain ⟨i, HI⟩ : ∃ i, Hid (atI l ra = i) := ⟨_, Lib.hid rfl⟩
  obtain ⟨qo, HQO⟩ : ∃ q, Hid (ownedL ⟨ra, rb, rc, rd⟩ = q) := ⟨_, Lib.hid rfl⟩
  have HS : Hid (∀ W, Below w.heap.size w W → Calls Try.prog 19 #[.slice A n c] W (RetB W q)) := Lib.hid fun W hb => by
    rw [← HQ.out]; exact sound_any W A n c l ((hr.below hb).more hb.size) hw hl hn
  have HA : Hid (∀ W, Below w.heap.size w W → Calls Try.prog 29 #[.slice A n c, .int .i64 ra] W (RetI W i)) := Lib.hid fun W hb => by
    rw [← HI.out]; exact at_any W A n c l ra ((hr.below hb).more hb.size) hw hl hn
  have HOW : Hid (∀ W, Calls Try.prog 32 #[.agg #[.int .i64 ra, .int .i64 rb, .int .i64 rc, .int .i64 rd]] W (RetB W qo)) := Lib.hid fun W => by
    rw [← HQO.out]; exact owned_any W ⟨ra, rb, rc, rd⟩
  have HC : Hid (∀ W, Below w.heap.size w W → Calls Try.prog 33 #[.slice A n c] W fun e w' => ∃ v, e = .returned v ∧ w'.ownsRow W.heap.size 31 4 v n (rowCells l) ∧ Below W.heap.size W w') :=
    Lib.hid fun W hb => cloneR_any A n c l W (hr.below hb) hb.size hl (by omega)
  have HR := Lib.hid hr
  have HL := Lib.hid hl
  have hn' := hn
  unfold maxLen at hn'
  unfold Rg.val
  simp only
  clear hr hw hl
  cases q
  · have HE : Hid (setL l ⟨ra, rb, rc, rd⟩ = ([], 1)) := Lib.hid (by unfold setL; rw [if_pos HQ.out])
    go_enter Try.func22, Try.ntmps22
    go_wp2_with (first
      | (go_at_call 29; refine (HA.out _ ((Below.refl _ _).alloc (Nat.le_refl _) _)).mono ?_; rintro e w1 ⟨rfl, hb1⟩)
      | (go_at_call 19; refine (HS.out _ (((Below.refl _ _).alloc (Nat.le_refl _) _).trans (hb1.mono (by rw [alloc_size]; omega)))).mono ?_; rintro e w2 ⟨rfl, hb2⟩))
    go_ret2
    rw [HE.out]
    have k1 := ((Below.refl w.heap.size w).alloc (Nat.le_refl _) (.cells #[.int .i64 ra, .int .i64 rb, .int .i64 rc, .int .i64 rd] 31)).trans (hb1.mono (by rw [alloc_size]; omega))
    exact ⟨none, 0, rfl, Nat.le_refl _, Nat.zero_le _, Reads.none_, k1.trans (hb2.mono k1.size)⟩
  have HF : Hid ((i = -1 ∧ l.findIdx? (has ra) = none) ∨ ∃ (k : Nat) (x : Rg), i = (k : Int) ∧ l[k]? = some x ∧ l.findIdx? (has ra) = some k ∧ k < n) := Lib.hid (by
    rw [← HI.out]
    have := HL.out
    unfold atI idxL
    rw [HQ.out]
    cases hf : l.findIdx? (has ra) with
    | none => left; exact ⟨rfl, rfl⟩
    | some k =>
      right
      have hk : k < l.length := by rw [List.findIdx?_eq_some_iff_getElem] at hf; exact hf.1
      exact ⟨k, l[k], rfl, List.getElem?_eq_getElem hk, rfl, by omega⟩)
  rcases HF.out with ⟨rfl, hf⟩ | ⟨k, x, rfl, hxk, hf, hk⟩
  · have HE : Hid (setL l ⟨ra, rb, rc, rd⟩ = ([], 4)) := Lib.hid (by unfold setL; rw [if_neg (by rw [HQ.out]; simp), hf])
    clear hf
    go_enter Try.func22, Try.ntmps22
    go_upto_region 4 with (first
      | (go_at_call 29; refine (HA.out _ ((Below.refl _ _).alloc (Nat.le_refl _) _)).mono ?_; rintro e w1 ⟨rfl, hb1⟩)
      | (go_at_call 19; refine (HS.out _ (((Below.refl _ _).alloc (Nat.le_refl _) _).trans (hb1.mono (by rw [alloc_size]; omega)))).mono ?_; rintro e w2 ⟨rfl, hb2⟩))
    have k1 := ((Below.refl w.heap.size w).alloc (Nat.le_refl _) (.cells #[.int .i64 ra, .int .i64 rb, .int .i64 rc, .int .i64 rd] 31)).trans (hb1.mono (by rw [alloc_size]; omega))
    have K2 := Lib.hid (k1.trans (hb2.mono k1.size))
    clear k1 hb1 hb2
    go_quiet (fail)
    go_wp2
    go_ret2
    rw [HE.out]
    exact ⟨none, 0, rfl, Nat.le_refl _, Nat.zero_le _, Reads.none_, below_drewN' K2.out _⟩
  · obtain ⟨xa, xb, xc, xd⟩ := x
    obtain ⟨ad, rfl, hab, hxa⟩ := HR.out.range hxk hk
    have HX : Hid (∀ W, Below w.heap.size w W → W.cell? (ad.add (k * 4)) = some (.int .i64 xa) ∧ W.cell? ⟨(ad.add (k * 4)).block, (ad.add (k * 4)).off + 1, none⟩ = some (.int .i64 xb)) :=
      Lib.hid fun W hb => by
        have h := range_below hxa hb (by rw [block_of_add]; exact hab)
        have h0 := h 0 _ rfl
        have h1 := h 1 _ rfl
        rw [add_of_add, Nat.add_zero] at h0
        rw [add1 _ 1 (by omega)] at h1
        exact ⟨h0, h1⟩
    clear hxa
    have HE : Hid (setL l ⟨ra, rb, rc, rd⟩ = if xa = ra ∧ xb = rb then (if qo then (l.set k ⟨ra, rb, rc, rd⟩, 0) else ([], 1)) else ([], 4)) := Lib.hid (by
      unfold setL
      rw [if_neg (by rw [HQ.out]; simp), hf]
      simp only [hxk, Option.getD_some, HQO.out])
    clear hf hxk
    go_enter Try.func22, Try.ntmps22
    go_upto_region 4 with (first
      | (go_at_call 29; refine (HA.out _ ((Below.refl _ _).alloc (Nat.le_refl _) _)).mono ?_; rintro e w1 ⟨rfl, hb1⟩)
      | (go_at_call 19; refine (HS.out _ (((Below.refl _ _).alloc (Nat.le_refl _) _).trans (hb1.mono (by rw [alloc_size]; omega)))).mono ?_; rintro e w2 ⟨rfl, hb2⟩))
    have k1 := ((Below.refl w.heap.size w).alloc (Nat.le_refl _) (.cells #[.int .i64 ra, .int .i64 rb, .int .i64 rc, .int .i64 rd] 31)).trans (hb1.mono (by rw [alloc_size]; omega))
    have K2 := Lib.hid (k1.trans (hb2.mono k1.size))
    have HB : Hid (w2.rangeAt w.heap.size 0 (Rg.cells ⟨ra, rb, rc, rd⟩) ∧ w.heap.size < w2.heap.size) := Lib.hid
      ⟨range_below_at (range_new w (Rg.cells ⟨ra, rb, rc, rd⟩) 31) (hb1.trans (hb2.mono hb1.size)) (by rw [alloc_size]; omega), by
        have := (hb1.trans (hb2.mono hb1.size)).size; rw [alloc_size] at this; omega⟩
    clear k1 hb1 hb2
    obtain ⟨c0, c1⟩ := HX.out _ K2.out
    have b0 : w2.cell? ⟨w.heap.size, 0, none⟩ = some (.int .i64 ra) := HB.out.1 0 _ rfl
    have b1 : w2.cell? ⟨w.heap.size, 1, none⟩ = some (.int .i64 rb) := HB.out.1 1 _ rfl
    have hneg : decide ((k : Int) < 0) = false := by simp
    by_cases e1 : xa = ra
    · by_cases e2 : xb = rb
      · subst e1 e2
        go_quiet (fail)
        have HB' : Hid ((w2.drewN nq).rangeAt w.heap.size 0 (Rg.cells ⟨xa, xb, rc, rd⟩) ∧ w.heap.size < (w2.drewN nq).heap.size) := HB
        have K2' : Hid (Below w.heap.size w (w2.drewN nq)) := Lib.hid (below_drewN' K2.out _)
        clear K2 HB c0 c1 b0 b1
        generalize w2.drewN nq = w3 at *
        cases qo
        · go_wp2_with (first
            | (refine wpList_load_mid rfl 31 _ rfl w.heap.size 0 rfl (Rg.cells ⟨xa, xb, rc, rd⟩) _ HB'.out.1 Try.underlying31 rfl (by kernel_rfl) ?_)
            | (go_at_call 32; refine (HOW.out _).mono ?_; rintro e w4 ⟨rfl, hb4⟩))
          go_ret2
          rw [HE.out]
          simp only [and_self, if_true, Bool.false_eq_true, if_false]
          exact ⟨none, 0, rfl, Nat.le_refl _, Nat.zero_le _, Reads.none_, K2'.out.trans (hb4.mono K2'.out.size)⟩
        · go_upto_region 9 with (first
            | (refine wpList_load_mid rfl 31 _ rfl w.heap.size 0 rfl (Rg.cells ⟨xa, xb, rc, rd⟩) _ HB'.out.1 Try.underlying31 rfl (by kernel_rfl) ?_)
            | (go_at_call 32; refine (HOW.out _).mono ?_; rintro e w4 ⟨rfl, hb4⟩)
            | (go_at_call 33; refine (HC.out _ (K2'.out.trans (hb4.mono K2'.out.size))).mono ?_; rintro e w5 ⟨v5, rfl, ho5, hb5⟩))
          have K4 := K2'.out.trans (hb4.mono K2'.out.size)
          have K5 := Lib.hid (K4.trans (hb5.mono K4.size))
          have HB5 : Hid (w5.rangeAt w.heap.size 0 (Rg.cells ⟨xa, xb, rc, rd⟩)) := Lib.hid (range_below_at (range_below_at HB'.out.1 hb4 HB'.out.2) hb5 (by have := hb4.size; have := HB'.out.2; omega))
          obtain ⟨g, c5, rfl, hc5, hm5, hg5, hgl, _⟩ : ∃ g c5, v5 = .slice (some ⟨g, 0, none⟩) n c5 ∧ n ≤ c5 ∧ c5 ≤ maxLen ∧ w4.heap.size ≤ g ∧ g < w5.heap.size ∧ True := by
            rcases ho5.2 with ⟨_, h0⟩ | ⟨g, cap, cur, rfl, hB, hg, hnc, hm, _⟩
            · omega
            · exact ⟨g, cap, rfl, hnc, hm, hB, (Array.getElem?_eq_some_iff.1 hg).1, trivial⟩
          have HO5 := Lib.hid ho5
          have HG : Hid (w.heap.size ≤ g) := Lib.hid (by have := K4.size; omega)
          clear ho5 hb5 hb4 K4
          go_wp2_with (first
            | (refine wpList_load_mid rfl 31 _ rfl w.heap.size 0 rfl (Rg.cells ⟨xa, xb, rc, rd⟩) _ HB5.out Try.underlying31 rfl (by kernel_rfl) ?_)
            | (refine wpList_store_mid rfl 31 _ _ rfl g (k * 4) (Rg.cells ⟨xa, xb, rc, rd⟩).toArray rfl rfl (own_there HO5.out HL.out hk) (by kernel_rfl) (all_oneCell_toArray (Rg.cells_one _)) ?_))
          go_ret2
          rw [HE.out]
          simp only [and_self, if_true]
          have hlen : (l.set k ⟨xa, xb, rc, rd⟩).length = n := by rw [List.length_set]; exact HL.out
          refine ⟨some ⟨g, 0, none⟩, c5, ?_, by rw [hlen]; exact hc5, hm5, by rw [hlen]; exact own_set HO5.out HL.out hk ⟨xa, xb, rc, rd⟩, Below.setCells _ HG.out _ _ K5.out⟩
          rw [hlen] <;> rfl
      · subst e1
        have e2b : (xb == rb) = false := by simpa using e2
        have e2c : (xb != rb) = true := by simp [bne, e2b]
        go_quiet (fail)
        go_wp2
        go_ret2
        rw [HE.out]
        simp only [e2, and_false, if_false]
        exact ⟨none, 0, rfl, Nat.le_refl _, Nat.zero_le _, Reads.none_, below_drewN' K2.out _⟩
    · have e1b : (xa == ra) = false := by simpa using e1
      have e1c : (xa != ra) = true := by simp [bne, e1b]
      go_quiet (fail)
      go_wp2
      go_ret2
      rw [HE.out]
      simp only [e1, false_and, if_false]
      exact ⟨none, 0, rfl, Nat.le_refl _, Nat.zero_le _, Reads.none_, below_drewN' K2.out _⟩
end
end Go.Proofs.Ytbgnmkjjfaepiaa
