import Derived.Test.YtlgkgmnnmlhaeaaNetA
namespace Go.Proofs.Ytlgkgmnnmlhaeaa
open Go.RowKit
set_option linter.unusedVariables false

theorem pk_set : ∀ (cur : List PkV) (i : Nat) (x : PkV), i < cur.length → (((pkCells cur).set (i * 3) (.int .i64 x.f)).set (i * 3 + 1) (.int .i64 x.t)).set (i * 3 + 2) x.v = pkCells (cur.set i x)
  | [], i, x, h => by simp at h
  | y :: l, 0, x, h => rfl
  | y :: l, i + 1, x, h => by
    have h1 : pkCells (y :: l) = .int .i64 y.f :: .int .i64 y.t :: y.v :: pkCells l := rfl
    have h2 : pkCells (y :: l.set i x) = .int .i64 y.f :: .int .i64 y.t :: y.v :: pkCells (l.set i x) := rfl
    rw [List.set_cons_succ, h2, h1, show (i + 1) * 3 = i * 3 + 1 + 1 + 1 by omega, show i * 3 + 1 + 1 + 1 + 1 = (i * 3 + 1) + 1 + 1 + 1 by omega, show i * 3 + 1 + 1 + 1 + 2 = (i * 3 + 2) + 1 + 1 + 1 by omega]
    simp only [List.set_cons_succ]
    rw [pk_set l i x (by simpa using h)]
theorem own_setPk {w : World} {B g n c i : Nat} {cur : List PkV} (h : w.ownsRow B 31 3 (.slice (some ⟨g, 0, none⟩) n c) n (pkCells cur)) (hl : cur.length = n) (hi : i < n) (f t : Int) (v : Value) :
    (w.setCells g (i * 3) [.int .i64 f, .int .i64 t, v]).ownsRow B 31 3 (.slice (some ⟨g, 0, none⟩) n c) n (pkCells (cur.set i ⟨f, t, v⟩)) := by
  rw [← pk_set cur i ⟨f, t, v⟩ (by omega)]
  exact own_setCell (own_setCell (own_setCell h (j := i * 3) (by omega) _) (j := i * 3 + 1) (by omega) _) (j := i * 3 + 2) (by omega) _
theorem own_prefix {w : World} {B s g n c k : Nat} {e : TypeId} {xs : List Value} (h : w.ownsRow B e s (.slice (some ⟨g, 0, none⟩) n c) n xs) (hk : k ≤ n) (us : List Value) :
    (w.setCells g (k * s) us).ownsRow B e s (.slice (some ⟨g, 0, none⟩) k c) k (xs.take (k * s)) := by
  obtain ⟨h1, h2⟩ := h
  have hks : k * s ≤ n * s := Nat.mul_le_mul_right _ hk
  rcases h2 with ⟨h2, _⟩ | ⟨g', cap, cur, hv, hg, hb, hnc, hm, hs, htk⟩
  · cases h2
  injection hv with a1 a2 a3
  injection a1 with a1
  injection a1 with a1
  subst a1 a3
  obtain ⟨cur', e1, e2, e3⟩ := setCells_heap g e (0, 0) us (k * s) w cur hb
  have hcs : n * s ≤ c * s := Nat.mul_le_mul_right _ hnc
  refine ⟨by rw [List.length_take, h1]; omega, .inr ⟨g, c, cur', rfl, hg, e1, by omega, hm, by rw [e2]; exact hs, ?_⟩⟩
  apply List.ext_getElem?
  intro i
  by_cases hi : i < k * s
  · rw [List.getElem?_take_of_lt hi, List.getElem?_take_of_lt hi, Array.getElem?_toList, e3 i (by omega), if_neg (by omega), ← htk, List.getElem?_take_of_lt (by omega), Array.getElem?_toList]
  · rw [List.getElem?_eq_none (by rw [List.length_take]; omega), List.getElem?_eq_none (by rw [List.length_take]; omega)]
theorem pk_takeC (l : List PkV) (k : Nat) : pkCells (l.take k) = (pkCells l).take (k * 3) := by
  induction l generalizing k with
  | nil => simp [pkCells]
  | cons x l ih =>
    cases k with
    | zero => simp [pkCells]
    | succ k =>
      have h1 : pkCells (x :: l) = .int .i64 x.f :: .int .i64 x.t :: x.v :: pkCells l := rfl
      have h2 : pkCells (x :: l.take k) = .int .i64 x.f :: .int .i64 x.t :: x.v :: pkCells (l.take k) := rfl
      rw [List.take_succ_cons, h2, h1, ih, show (k + 1) * 3 = k * 3 + 3 by omega]
      rfl
def keepB (d : Int) (x : PkV) : Bool := !hitB d x
theorem filter_succ {vs : List PkV} {d : Int} {j : Nat} {x : PkV} (h : vs[j]? = some x) : (vs.take (j + 1)).filter (keepB d) = (vs.take j).filter (keepB d) ++ if hitB d x then [] else [x] := by
  rw [List.take_add_one, h, Option.toList, List.filter_append]
  congr 1
  cases hh : hitB d x <;> simp [keepB, hh]

set_option maxRecDepth 100000 in
set_option maxHeartbeats 8000000 in
theorem delfunc_any (w : World) (g c n B : Nat) (vs : List PkV) (d : Int) (p : Addr) (h : w.ownsRow B 31 3 (.slice (some ⟨g, 0, none⟩) n c) n (pkCells vs)) (hl : vs.length = n) (hone : ∀ x ∈ vs, ∃ A n c, x.v = .slice A n c) (hn : n ≤ 1000) (hnc : n ≤ c) (hcm : c ≤ maxLen) (hc : w.cell? p = some (.int .i64 d)) (hp : p.block < w.heap.size) (hpg : p.block ≠ g) :
    Calls Try.prog 29 #[.slice (some ⟨g, 0, none⟩) n c, .func (.func 30) #[] #[.pointer (some p)]] w fun e w' =>
      e = .returned (.slice (some ⟨g, 0, none⟩) (vs.filter (keepB d)).length c) ∧ w'.ownsRow B 31 3 (.slice (some ⟨g, 0, none⟩) (vs.filter (keepB d)).length c) (vs.filter (keepB d)).length (pkCells (vs.filter (keepB d))) ∧ Kept (fun b => b = g) w w' := by
  have HL := Lib.hid hl
  have HH := Lib.hid h
  have HONE := Lib.hid hone
  have hgl := (h.lt g rfl).2
  have HI := Lib.hid (idx_any w (some ⟨g, 0, none⟩) n c w.heap.size vs d p (Reads.of_own h) (Nat.le_refl _) hl hn hc hp)
  obtain ⟨m, HM⟩ : ∃ m, Hid ((vs.filter (keepB d)).length = m) := ⟨_, Lib.hid rfl⟩
  rw [HM.out]
  have HC := Lib.hid hc
  clear h hl hone hc
  cases hf : vs.findIdx? (hitB d) with
  | none =>
    have HE : Hid (idxL vs d = -1) := Lib.hid (by unfold idxL; rw [hf])
    have HALL : Hid (vs.filter (keepB d) = vs) := Lib.hid (by
      rw [List.findIdx?_eq_none_iff] at hf
      rw [List.filter_eq_self]
      intro x hx
      have := hf x hx
      simp [keepB, this])
    have hmn : m = n := by rw [← HM.out, HALL.out, HL.out]
    subst hmn
    rw [HE.out] at HI
    clear hf
    go_enter Try.func29, Try.ntmps29
    go_wp2_with (go_at_call 33; refine HI.out.mono ?_; rintro e w1 ⟨rfl, hb1⟩)
    go_ret
    refine ⟨rfl, ?_, Kept.of_below hb1⟩
    rw [HALL.out]
    exact own_below HH.out hb1 (Nat.le_refl _)
  | some i0 =>
    have HE : Hid (idxL vs d = (i0 : Int)) := Lib.hid (by unfold idxL; rw [hf])
    obtain ⟨hi0, hhit, hbef⟩ := List.findIdx?_eq_some_iff_getElem.1 hf
    have hi0n : i0 < n := by have := HL.out; omega
    have HSTART : Hid (vs.take i0 = (vs.take (i0 + 1)).filter (keepB d)) := Lib.hid (by
      rw [filter_succ (List.getElem?_eq_getElem hi0), hhit, if_pos rfl, List.append_nil]
      symm
      rw [List.filter_eq_self]
      intro x hx
      obtain ⟨j, hj, rfl⟩ := List.getElem_of_mem hx
      have hj0 : j < i0 := by rw [List.length_take] at hj; omega
      rw [List.getElem_take]
      have := hbef j hj0
      simp only [keepB]
      simpa using this)
    have hne1 : ((i0 : Int) == -1) = false := by simp
    rw [HE.out] at HI
    clear hf hhit hbef hi0 HE
    go_enter Try.func29, Try.ntmps29
    go_wp2_with (go_at_call 33; refine HI.out.mono ?_; rintro e w1 ⟨rfl, hb1⟩)
    have HK1 : Hid (Kept (fun b => b = g) w w1) := Lib.hid (Kept.of_below hb1)
    have HO1 := Lib.hid (own_below HH.out hb1 (Nat.le_refl _))
    clear hb1
    go_loopw [5, 6] (fun s5 s6 wr => ∃ (i j : Nat) (cur : List PkV), i < j ∧ j ≤ n ∧ s5 = .int .i64 i ∧ s6 = .int .i64 j ∧ Hid (cur.length = n) ∧ Hid (cur.take i = (vs.take j).filter (keepB d)) ∧ Hid (cur.drop j = vs.drop j) ∧ Hid (wr.ownsRow B 31 3 (.slice (some ⟨g, 0, none⟩) n c) n (pkCells cur)) ∧ Hid (Kept (fun b => b = g) w wr)) (fun _ s6 _ => n - (intOf s6).toNat)
    case atStart => exact ⟨i0, i0 + 1, vs, by omega, by omega, rfl, by go_num, HL, HSTART, Lib.hid rfl, HO1, HK1⟩
    case round =>
      obtain ⟨i, j, cur, hij, hj, rfl, rfl, HCL, HTK, HDR, HO, HK⟩ := hrel
      by_cases hlt : j < n
      · refine code_hide (fun Q0 HQ0 => ?_)
        obtain ⟨x, hx⟩ : ∃ x, vs[j]? = some x := ⟨_, List.getElem?_eq_getElem (by have := HL.out; omega)⟩
        have hxc : cur[j]? = some x := by
          have := congrArg (·[0]?) HDR.out
          simp only [List.getElem?_drop, Nat.add_zero] at this
          rw [this, hx]
        obtain ⟨Ab, nb, cb, hxv⟩ := HONE.out x (List.mem_of_getElem? hx)
        have HFS := Lib.hid (filter_succ (d := d) hx)
        have hcl := flat_own PkV.cells_length HO.out hxc
        obtain ⟨f, t, v⟩ := x
        simp only at hxv
        subst hxv
        have HRX : Hid (wr.rangeAt g (j * 3) [.int .i64 f, .int .i64 t, .slice Ab nb cb]) := Lib.hid fun q u hu => (hcl q u hu).1
        have HRA : Hid (∀ W, Below wr.heap.size wr W → Calls Try.prog 30 #[.agg #[.int .i64 f, .int .i64 t, .slice Ab nb cb], .pointer (some p)] W (RetB W (hitB d ⟨f, t, .slice Ab nb cb⟩))) := Lib.hid fun W hb => hit_any W ⟨f, t, .slice Ab nb cb⟩ d p (by rw [hb.cell (by have := HK.out.size; omega), HK.out.cell hp hpg]; exact HC.out) (by have := HK.out.size; have := hb.size; omega)
        have hgr := (HO.out.lt g rfl).2
        clear hcl hx hxc
        go_upto_region 8 with (refine wpList_load_mid rfl 31 _ rfl g (j * 3) rfl [.int .i64 f, .int .i64 t, .slice Ab nb cb] _ HRX.out Try.underlying31 rfl (by kernel_rfl) ?_)
        have H1 : Hid (Below wr.heap.size wr (wr.alloc (.cells #[.int .i64 f, .int .i64 t, .slice Ab nb cb] 31)) ∧ (wr.alloc (.cells #[.int .i64 f, .int .i64 t, .slice Ab nb cb] 31)).rangeAt wr.heap.size 0 [.int .i64 f, .int .i64 t, .slice Ab nb cb] ∧ wr.heap.size < (wr.alloc (.cells #[.int .i64 f, .int .i64 t, .slice Ab nb cb] 31)).heap.size ∧ (wr.alloc (.cells #[.int .i64 f, .int .i64 t, .slice Ab nb cb] 31)).ownsRow B 31 3 (.slice (some ⟨g, 0, none⟩) n c) n (pkCells cur)) := Lib.hid
          ⟨(Below.refl _ _).alloc (Nat.le_refl _) _, range_new wr [.int .i64 f, .int .i64 t, .slice Ab nb cb] _, by rw [alloc_size]; omega, HO.out.kept (World.grownBy_alloc wr _ none) (own_or _)⟩
        obtain ⟨q, HQ⟩ : ∃ q, Hid (hitB d ⟨f, t, .slice Ab nb cb⟩ = q) := ⟨_, Lib.hid rfl⟩
        rw [HQ.out] at HRA HFS
        generalize (wr.alloc (.cells #[.int .i64 f, .int .i64 t, .slice Ab nb cb] 31)) = W1 at *
        have HCA := Lib.hid (HRA.out W1 H1.out.1)
        generalize hb7 : wr.heap.size = b7 at *
        have hgb : g < b7 := by omega
        cases q
        · go_upto_region 9 with (first
            | (refine wpList_load_mid rfl 31 _ rfl b7 0 rfl [.int .i64 f, .int .i64 t, .slice Ab nb cb] _ H1.out.2.1 Try.underlying31 rfl (by kernel_rfl) ?_)
            | (go_at_call 30; refine HCA.out.mono ?_; rintro e w2 ⟨rfl, hb2⟩))
          have HR2 : Hid (w2.rangeAt b7 0 [.int .i64 f, .int .i64 t, .slice Ab nb cb]) := Lib.hid (range_below_at H1.out.2.1 hb2 H1.out.2.2.1)
          have HO2 : Hid (w2.ownsRow B 31 3 (.slice (some ⟨g, 0, none⟩) n c) n (pkCells cur)) := Lib.hid (own_below H1.out.2.2.2 hb2 (Nat.le_refl _))
          have HK2 : Hid (Kept (fun b => b = g) w w2) := Lib.hid (HK.out.trans (Kept.of_below (by rw [hb7]; exact H1.out.1.trans (hb2.mono (Nat.le_of_lt H1.out.2.2.1))) : Kept (fun _ => False) wr w2) (fun _ _ h => h.elim))
          have hin : i < n := by omega
          have HT2 : Hid (w2.there g (i * 3) 3) := Lib.hid fun q hq => by
            have hlt2 : i * 3 + q < (pkCells cur).length := by rw [pkCells, flat_length PkV.cells_length, HCL.out]; omega
            obtain ⟨h1, h2⟩ := own_cell HO2.out (List.getElem?_eq_getElem hlt2)
            exact ⟨by rw [h1]; rfl, h2⟩
          clear hb2
          go_wp2_with (first
            | (refine wpList_load_mid rfl 31 _ rfl b7 0 rfl [.int .i64 f, .int .i64 t, .slice Ab nb cb] _ HR2.out Try.underlying31 rfl (by kernel_rfl) ?_)
            | (refine wpList_store_mid rfl 31 _ _ rfl g (i * 3) [.int .i64 f, .int .i64 t, .slice Ab nb cb].toArray rfl rfl HT2.out (by kernel_rfl) (all_oneCell_toArray (pk3_one _ _ _ _ _)) ?_))
          refine hide_out HQ0 ?_
          go_step
          go_roundw
          case rel =>
            refine ⟨i + 1, j + 1, cur.set i ⟨f, t, .slice Ab nb cb⟩, by omega, by omega, by go_num, by go_num, Lib.hid (by rw [List.length_set]; exact HCL.out), Lib.hid ?_, Lib.hid ?_, Lib.hid (own_setPk HO2.out HCL.out hin _ _ _), Lib.hid (kept_setCells (S := fun b => b = g) g rfl _ _ HK2.out)⟩
            · rw [HFS.out, ← HTK.out, List.take_add_one, List.getElem?_set_self (by rw [HCL.out]; exact hin), List.take_set_of_le (Nat.le_refl _)]
              rfl
            · rw [List.drop_set_of_lt (by omega), ← List.drop_drop, HDR.out, List.drop_drop]
          case measure => simp [intOf]; omega
        · go_wp2_with (first
            | (refine wpList_load_mid rfl 31 _ rfl b7 0 rfl [.int .i64 f, .int .i64 t, .slice Ab nb cb] _ H1.out.2.1 Try.underlying31 rfl (by kernel_rfl) ?_)
            | (go_at_call 30; refine HCA.out.mono ?_; rintro e w2 ⟨rfl, hb2⟩))
          refine hide_out HQ0 ?_
          go_step
          go_roundw
          case rel =>
            refine ⟨i, j + 1, cur, by omega, by omega, rfl, by go_num, HCL, Lib.hid ?_, Lib.hid ?_, Lib.hid (own_below H1.out.2.2.2 hb2 (Nat.le_refl _)), Lib.hid (HK.out.trans (Kept.of_below (by rw [hb7]; exact H1.out.1.trans (hb2.mono (Nat.le_of_lt H1.out.2.2.1))) : Kept (fun _ => False) wr w2) (fun _ _ h => h.elim))⟩
            · rw [HFS.out, HTK.out]; simp
            · rw [← List.drop_drop, HDR.out, List.drop_drop]
          case measure => simp [intOf]; omega
      · obtain rfl : n = j := by omega
        have hm : m = i := by
          have h1 := HTK.out
          rw [show vs.take n = vs from List.take_of_length_le (by have := HL.out; omega)] at h1
          rw [← HM.out, ← h1, List.length_take, HCL.out]; omega
        have HFIN : Hid (vs.filter (keepB d) = cur.take i) := Lib.hid (by
          have h1 := HTK.out
          rw [show vs.take n = vs from List.take_of_length_le (by have := HL.out; omega)] at h1
          exact h1.symm)
        subst hm
        obtain ⟨i0', hi', hz0, hz1, hz2⟩ := info_parts Try.infoPk
        have hcell : ∀ q, q < n * 3 → (wr.cell? ⟨g, q, none⟩).isSome = true ∧ wr.frozen? ⟨g, q, none⟩ = false := fun q hq => by
          have hlt2 : q < (pkCells cur).length := by rw [pkCells, flat_length PkV.cells_length, HCL.out]; omega
          obtain ⟨h1, h2⟩ := own_cell HO.out (List.getElem?_eq_getElem hlt2)
          exact ⟨by rw [h1]; rfl, h2⟩
        have hclr : ∀ ty, (Builtin.clear_ #[25] ty #[.slice (some ⟨g, m * 3, none⟩) (n - m) (c - m)]).run Try.prog wr = .ok (.tuple #[]) (wr.setCells g (m * 3) (Builtin.zeroCells (Value.agg #[.int .i64 0, .int .i64 0, .slice none 0 0]).cells (n - m)).toList) := fun ty =>
          run_clear_row wr 25 31 ty (Value.agg #[.int .i64 0, .int .i64 0, .slice none 0 0]) Try.underlying25 (fun w => by simp [zeroValue, typeInfo, hi', hz0]) zero_one zero_len g _ _ _ (by omega) (fun q hq => (hcell _ (by have : q < (n - m) * 3 := hq; omega)).1) (fun q hq => (hcell _ (by have : q < (n - m) * 3 := hq; omega)).2)
        have hcm' : (c = m) = False := eq_false (by omega)
        have hmc : m ≤ c := by omega
        have hmn : m ≤ n := by omega
        clear hcell hi' hz0 hz1 hz2
        go_wp2
        go_ret
        refine ⟨rfl, ?_, kept_setCells (S := fun b => b = g) g rfl _ _ HK.out⟩
        rw [HFIN.out, pk_takeC]
        exact own_prefix HO.out hmn _
end Go.Proofs.Ytlgkgmnnmlhaeaa
