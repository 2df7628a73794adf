import Derived.Test.YtbgnmkjjfaepiaaRingFind
namespace Go.Proofs.Ytbgnmkjjfaepiaa
open Go.RowKit
set_option linter.unusedVariables false

/-! ### A result in a cell of its own -/
theorem ret_cell {P : Program} {fn : Func} {R : Ending → World → Prop} {a : Act} {w : World} (p u : Tmp) (ty : TypeId) (h : fn.results = #[.cell p ty, .tmp u]) (b : Nat) (cs : List Value) (d : TypeDesc)
    (hp : a.tmps.getD p undef = .pointer (some ⟨b, 0, none⟩)) (hc : w.rangeAt b 0 cs) (hu : P.underlying ty = some d) (hd : d.isRow = true) (hi : (P.info? ty).map (·.size) = some cs.length)
    (hdf : a.defers = []) (hR : R (.returned (.tuple #[.agg cs.toArray, a.tmps.getD u undef])) w) : bodyPost P fn R .ret a w := by
  refine bodyPost_ret (v := .tuple #[.agg cs.toArray, a.tmps.getD u undef]) ?_ hdf hR
  simp only [results, h]
  have := run_loadVar_mid (P := P) w b 0 ty cs d hc hu hd hi
  simp only [Array.getD_eq_getD_getElem?] at hp
  simp [Result.andThen, hp, asAddr, this]
theorem Below.setCells {B : Nat} {a : World} (b : Nat) (hb : B ≤ b) : ∀ (vs : List Value) (o : Nat) {w : World}, Below B a w → Below B a (w.setCells b o vs)
  | [], _, _, h => h
  | v :: r, o, w, h => by
    rw [World.setCells]
    exact Below.setCells b hb r (o + 1) (h.setCell (p := ⟨b, o, none⟩) hb v)
theorem there_below {w w' : World} {B b o n : Nat} (h : w.there b o n) (hb : Below B w w') (hB : b < B) : w'.there b o n := fun j hj => by
  rw [hb.cell (p := ⟨b, o + j, none⟩) hB, hb.frozen (p := ⟨b, o + j, none⟩) hB]; exact h j hj
theorem range_below_at {w w' : World} {B b o : Nat} {cs : List Value} (h : w.rangeAt b o cs) (hb : Below B w w') (hB : b < B) : w'.rangeAt b o cs := fun j v hv => by
  rw [hb.cell (p := ⟨b, o + j, none⟩) hB]; exact h j v hv
theorem range_new (w : World) (cs : List Value) (e : TypeId) : (w.alloc (.cells cs.toArray e)).rangeAt w.heap.size 0 cs := fun j v hv => by
  rw [Nat.zero_add, World.cell?_alloc_at _ _ _ _ rfl]; simpa using hv
set_option maxRecDepth 100000 in
theorem there_new (w : World) (cs : List Value) (e : TypeId) : (w.alloc (.cells cs.toArray e)).there w.heap.size 0 cs.length := fun j hj => by
  refine ⟨by rw [Nat.zero_add, World.cell?_alloc_at _ _ _ _ rfl]; simp [hj], ?_⟩
  exact World.frozen?_alloc_at _ _ _ _ rfl

def atI (l : List Rg) (h : Int) : Int := if soundL l then idxL l h else -1
theorem find_split (l : List Rg) (h : Int) : (idxL l h = -1 ∧ l.find? (has h) = none) ∨ ∃ (k : Nat) (r : Rg), idxL l h = (k : Int) ∧ l[k]? = some r ∧ l.find? (has h) = some r ∧ k < l.length := by
  unfold idxL
  cases hf : l.findIdx? (has h) with
  | none =>
    left
    refine ⟨rfl, ?_⟩
    rw [List.findIdx?_eq_none_iff] at hf
    rw [List.find?_eq_none]
    intro x hx
    simp [hf x hx]
  | some k =>
    right
    rw [List.findIdx?_eq_some_iff_getElem] at hf
    obtain ⟨hk, hp, hn⟩ := hf
    refine ⟨k, l[k], rfl, List.getElem?_eq_getElem hk, ?_, hk⟩
    rw [List.find?_eq_some_iff_getElem]
    exact ⟨hp, k, hk, rfl, fun j hj => by simpa using hn j hj⟩

/-- Where ref.Find's loop stands. -/
theorem find_none_of {l : List Rg} {h : Int} (hn : ∀ j x, j < l.length → l[j]? = some x → has h x = false) : l.find? (has h) = none := by
  rw [List.find?_eq_none]
  intro x hx
  obtain ⟨j, hj, he⟩ := List.getElem_of_mem hx
  rw [hn j x hj (by rw [List.getElem?_eq_getElem hj, he])]
  simp
theorem find_some_of {l : List Rg} {h : Int} {k : Nat} {r : Rg} (hrk : l[k]? = some r) (hn : ∀ j x, j < k → l[j]? = some x → has h x = false) (hh : has h r = true) : l.find? (has h) = some r := by
  obtain ⟨hk, he⟩ := List.getElem?_eq_some_iff.1 hrk
  rw [List.find?_eq_some_iff_getElem]
  refine ⟨hh, k, hk, he, fun j hj => ?_⟩
  rw [hn j _ hj (List.getElem?_eq_getElem (by omega))]
  simp

section
variable (w : World) (A : Option Addr) (n c : Nat) (l : List Rg) (h : Int) (hr : Reads w w.heap.size 4 A n (rowCells l)) (hw : ∀ r ∈ l, r.wf) (hl : l.length = n) (hn : n ≤ maxLen)
include hr hw hl hn

set_option maxRecDepth 100000 in
set_option maxHeartbeats 4000000 in
theorem at_any : Calls Try.prog 29 #[.slice A n c, .int .i64 h] w (RetI w (atI l h)) := by
  obtain ⟨q, HQ⟩ : ∃ q, Hid (soundL l = q) := ⟨_, Lib.hid rfl⟩
  have HS : Hid (∀ W, Below w.heap.size w W → Calls Try.prog 19 #[.slice A n c] W (RetB W q)) := Lib.hid fun W hb => by
    rw [← HQ.out]; exact sound_any W A n c l ((hr.below hb).more hb.size) hw hl hn
  have HI : Hid (∀ W, Below (w.heap.size + 1) (w.alloc (.cells #[.int .i64 h] 3)) W →
      Calls Try.prog 36 #[.slice A n c, .func (.func 37) #[] #[.pointer (some ⟨w.heap.size, 0, none⟩)]] W (RetI W (idxL l h))) :=
    Lib.hid fun W hb => idx_any W A n c w.heap.size l h _ ((hr.alloc (Nat.le_refl _) _).below (hb.mono (by omega))) (by have := hb.size; rw [alloc_size] at this; omega) hl hn
      (by rw [hb.cell (by show w.heap.size < _; omega)]; exact World.cell?_alloc_at _ _ _ _ rfl) (by have := hb.size; rw [alloc_size] at this; show w.heap.size < _; omega)
  clear hr hw hl
  cases q
  · have HE := Lib.hid (show atI l h = -1 by unfold atI; rw [HQ.out]; rfl)
    go_enter Try.func29, Try.ntmps29
    go_wp2_with (go_at_call 19; refine (HS.out _ ((Below.refl _ _).alloc (Nat.le_refl _) _)).mono ?_; rintro e w' ⟨rfl, hb2⟩)
    go_ret
    exact ⟨by rw [HE.out] <;> rfl, ((Below.refl _ _).alloc (Nat.le_refl _) _).trans (hb2.mono (by rw [alloc_size]; omega))⟩
  · have HE := Lib.hid (show atI l h = idxL l h by unfold atI; rw [HQ.out]; rfl)
    go_enter Try.func29, Try.ntmps29
    go_wp2_with (first
      | (go_at_call 19; refine (HS.out _ ((Below.refl _ _).alloc (Nat.le_refl _) _)).mono ?_; rintro e w' ⟨rfl, hb2⟩)
      | (go_at_call 36; refine (HI.out _ (by rw [alloc_size] at hb2; exact hb2)).mono ?_; rintro e w'' ⟨rfl, hb3⟩))
    go_ret
    exact ⟨by rw [HE.out] <;> rfl, ((Below.refl _ _).alloc (Nat.le_refl _) _).trans ((hb2.mono (by rw [alloc_size]; omega)).trans (hb3.mono (by have := hb2.size; rw [alloc_size] at this; omega)))⟩

set_option maxRecDepth 100000 in
set_option maxHeartbeats 4000000 in
theorem find_any : Calls Try.prog 14 #[.slice A n c, .int .i64 h] w (RetF w (findL l h)) := by
  obtain ⟨i, HQ⟩ : ∃ i, Hid (atI l h = i) := ⟨_, Lib.hid rfl⟩
  have HS : Hid (∀ W, Below w.heap.size w W → Calls Try.prog 29 #[.slice A n c, .int .i64 h] W (RetI W i)) := Lib.hid fun W hb => by
    rw [← HQ.out]; exact at_any W A n c l h ((hr.below hb).more hb.size) hw hl hn
  have HR := Lib.hid hr
  have HC : Hid ((i = -1 ∧ findL l h = none) ∨ ∃ (k : Nat) (r : Rg), i = (k : Int) ∧ l[k]? = some r ∧ findL l h = some r ∧ k < n) := Lib.hid (by
    rw [← HQ.out, ← hl]
    unfold atI findL
    cases soundL l
    · left; exact ⟨rfl, rfl⟩
    · exact find_split l h)
  clear hr hw hl
  have hn' := hn
  unfold maxLen at hn'
  rcases HC.out with ⟨rfl, hf⟩ | ⟨k, r, rfl, hrk, hf, hk⟩
  · have HF := Lib.hid hf
    clear hf
    go_enter Try.func14, Try.ntmps14
    go_wp2_with (first
      | (go_at_call 29; refine (HS.out _ ((Below.refl _ _).alloc (Nat.le_refl _) _)).mono ?_; rintro e w' ⟨rfl, hb2⟩)
      | (refine wpList_store_mid rfl 31 _ _ rfl w.heap.size 0 (Rg.cells zeroR).toArray rfl rfl (there_below (there_new w (Rg.cells zeroR) 31) hb2 (by rw [alloc_size]; omega)) (by kernel_rfl) (all_oneCell_toArray (Rg.cells_one _)) ?_))
    have HT := there_below (there_new w (Rg.cells zeroR) 31) hb2 (by rw [alloc_size]; omega)
    refine ret_cell 4 5 31 rfl w.heap.size (Rg.cells zeroR) _ rfl (World.rangeAt_setCells_same _ _ _ _ HT) Try.underlying31 rfl (by kernel_rfl) rfl ?_
    refine ⟨by rw [HF.out] <;> rfl, Below.setCells _ (Nat.le_refl _) _ _ (((Below.refl _ _).alloc (Nat.le_refl _) _).trans (hb2.mono (by rw [alloc_size]; omega)))⟩
  · have HF := Lib.hid hf
    obtain ⟨ad, rfl, hab, hra⟩ := HR.out.range hrk hk
    obtain ⟨ra, rb, rc, rd⟩ := r
    have HRA : Hid (∀ W, Below w.heap.size w W → ∀ j v, [Value.int .i64 ra, .int .i64 rb, .int .i64 rc, .int .i64 rd][j]? = some v → W.cell? ((ad.add (k * 4)).add j) = some v) :=
      Lib.hid fun W hb => range_below hra hb (by rw [block_of_add]; exact hab)
    clear hf hrk hra
    go_enter Try.func14, Try.ntmps14
    go_wp2_with (first
      | (go_at_call 29; refine (HS.out _ ((Below.refl _ _).alloc (Nat.le_refl _) _)).mono ?_; rintro e w' ⟨rfl, hb2⟩)
      | (refine wpList_load_at rfl 31 _ rfl _ rfl [Value.int .i64 ra, .int .i64 rb, .int .i64 rc, .int .i64 rd] _ (HRA.out _ (((Below.refl _ _).alloc (Nat.le_refl _) _).trans (hb2.mono (by rw [alloc_size]; omega)))) Try.underlying31 rfl (by kernel_rfl) ?_)
      | (refine wpList_store_mid rfl 31 _ _ rfl w.heap.size 0 (Rg.cells ⟨ra, rb, rc, rd⟩).toArray rfl rfl (there_below (there_new w (Rg.cells zeroR) 31) hb2 (by rw [alloc_size]; omega)) (by kernel_rfl) (all_oneCell_toArray (Rg.cells_one _)) ?_))
    have HT := there_below (there_new w (Rg.cells zeroR) 31) hb2 (by rw [alloc_size]; omega)
    refine ret_cell 4 5 31 rfl w.heap.size (Rg.cells ⟨ra, rb, rc, rd⟩) _ rfl (World.rangeAt_setCells_same _ _ _ _ HT) Try.underlying31 rfl (by kernel_rfl) rfl ?_
    refine ⟨by rw [HF.out] <;> rfl, Below.setCells _ (Nat.le_refl _) _ _ (((Below.refl _ _).alloc (Nat.le_refl _) _).trans (hb2.mono (by rw [alloc_size]; omega)))⟩

set_option maxRecDepth 100000 in
set_option maxHeartbeats 4000000 in
theorem findR_any : Calls Try.prog 15 #[.slice A n c, .int .i64 h] w (RetF w (findL l h)) := by
  obtain ⟨q, HQ⟩ : ∃ q, Hid (soundL l = q) := ⟨_, Lib.hid rfl⟩
  have HS : Hid (∀ W, Below w.heap.size w W → Calls Try.prog 20 #[.slice A n c] W (RetB W q)) := Lib.hid fun W hb => by
    rw [← HQ.out]; exact soundRing_any W A n c l ((hr.below hb).more hb.size) hw hl hn
  have HR := Lib.hid hr
  have HL := Lib.hid hl
  clear hr hw hl
  have hn' := hn
  unfold maxLen at hn'
  cases q
  · have HF : Hid (findL l h = none) := Lib.hid (by unfold findL; rw [HQ.out]; rfl)
    go_enter Try.func15, Try.ntmps15
    go_wp2_with (first
      | (go_at_call 20; refine (HS.out _ ((Below.refl _ _).alloc (Nat.le_refl _) _)).mono ?_; rintro e w' ⟨rfl, hb2⟩)
      | (refine wpList_store_mid rfl 31 _ _ rfl w.heap.size 0 (Rg.cells zeroR).toArray rfl rfl (there_below (there_new w (Rg.cells zeroR) 31) hb2 (by rw [alloc_size]; omega)) (by kernel_rfl) (all_oneCell_toArray (Rg.cells_one _)) ?_))
    have HT := there_below (there_new w (Rg.cells zeroR) 31) hb2 (by rw [alloc_size]; omega)
    refine ret_cell 4 5 31 rfl w.heap.size (Rg.cells zeroR) _ rfl (World.rangeAt_setCells_same _ _ _ _ HT) Try.underlying31 rfl (by kernel_rfl) rfl ?_
    refine ⟨by rw [HF.out] <;> rfl, Below.setCells _ (Nat.le_refl _) _ _ (((Below.refl _ _).alloc (Nat.le_refl _) _).trans (hb2.mono (by rw [alloc_size]; omega)))⟩
  · have HF : Hid (findL l h = l.find? (has h)) := Lib.hid (by unfold findL; rw [HQ.out]; rfl)
    go_enter Try.func15, Try.ntmps15
    go_wp2_with (first
      | (go_at_call 20; refine (HS.out _ ((Below.refl _ _).alloc (Nat.le_refl _) _)).mono ?_; rintro e w' ⟨rfl, hb2⟩))
    have HT0 := Lib.hid (there_below (there_new w (Rg.cells zeroR) 31) hb2 (by rw [alloc_size]; omega))
    have HB2 : Hid (Below w.heap.size w w') := Lib.hid (((Below.refl _ _).alloc (Nat.le_refl _) _).trans (hb2.mono (by rw [alloc_size]; omega)))
    clear hb2
    go_loopw [6] (fun i wr => ∃ k : Nat, k ≤ n ∧ i = .int .i64 k ∧ (∀ j x, j < k → l[j]? = some x → has h x = false) ∧ wr = w') (fun i _ => n - (intOf i).toNat)
    case atStart => exact ⟨0, Nat.zero_le _, rfl, fun j x hj => absurd hj (by omega), rfl⟩
    case round =>
      obtain ⟨k, hk, rfl, hnone, rfl⟩ := hrel
      have HN := Lib.hid hnone
      clear hnone
      refine code_hide (fun Q0 HQ0 => ?_)
      by_cases hlt : k < n
      · obtain ⟨r, hrk⟩ : ∃ r, l[k]? = some r := ⟨_, List.getElem?_eq_getElem (by have := HL.out; omega)⟩
        obtain ⟨ad, rfl, hab, hra⟩ := (HR.out.below HB2.out).range hrk hlt
        obtain ⟨ra, rb, rc, rd⟩ := r
        have HRA : Hid (∀ j v, [Value.int .i64 ra, .int .i64 rb, .int .i64 rc, .int .i64 rd][j]? = some v → wr.cell? ((ad.add (k * 4)).add j) = some v) := Lib.hid hra
        have HRK := Lib.hid hrk
        have c0 : wr.cell? (ad.add (k * 4)) = some (.int .i64 ra) := by have := hra 0 (.int .i64 ra) rfl; rwa [add_of_add, Nat.add_zero] at this
        have c1 : wr.cell? ⟨(ad.add (k * 4)).block, (ad.add (k * 4)).off + 1, none⟩ = some (.int .i64 rb) := by have := hra 1 (.int .i64 rb) rfl; rwa [add1 _ 1 (by omega)] at this
        clear hra hrk
        have skip : has h ⟨ra, rb, rc, rd⟩ = false → ∃ k' : Nat, k' ≤ n ∧ k + 1 = k' ∧ (∀ j x, j < k' → l[j]? = some x → has h x = false) := fun hq =>
          ⟨k + 1, by omega, rfl, fun j x hj hx => by
            by_cases e : j = k
            · subst e
              have := HRK.out; rw [hx] at this; injection this with this; rw [this]; exact hq
            · exact HN.out j x (by omega) hx⟩
        have HSK := Lib.hid skip
        clear skip
        by_cases h1 : ra ≤ h
        · by_cases h2 : h ≤ rb
          · go_wp2_with (first
              | (refine wpList_unguard rfl ?_)
              | (refine wpList_load_at rfl 31 _ rfl _ rfl [Value.int .i64 ra, .int .i64 rb, .int .i64 rc, .int .i64 rd] _ HRA.out Try.underlying31 rfl (by kernel_rfl) ?_)
              | (refine wpList_store_mid rfl 31 _ _ rfl w.heap.size 0 (Rg.cells ⟨ra, rb, rc, rd⟩).toArray rfl rfl HT0.out (by kernel_rfl) (all_oneCell_toArray (Rg.cells_one _)) ?_))
            refine hide_out HQ0 ?_
            go_wp2
            refine ret_cell 4 5 31 rfl w.heap.size (Rg.cells ⟨ra, rb, rc, rd⟩) _ rfl (World.rangeAt_setCells_same _ _ _ _ HT0.out) Try.underlying31 rfl (by kernel_rfl) rfl ?_
            exact ⟨by rw [HF.out, find_some_of HRK.out HN.out (by simp [has]; omega)] <;> rfl, Below.setCells _ (Nat.le_refl _) _ _ HB2.out⟩
          · have h2d : decide (h ≤ rb) = false := by simpa using h2
            go_wp2_with (first
              | (refine wpList_unguard rfl ?_)
              | (refine wpList_load_at rfl 31 _ rfl _ rfl [Value.int .i64 ra, .int .i64 rb, .int .i64 rc, .int .i64 rd] _ HRA.out Try.underlying31 rfl (by kernel_rfl) ?_)
              | (refine wpList_store_mid rfl 31 _ _ rfl w.heap.size 0 (Rg.cells ⟨ra, rb, rc, rd⟩).toArray rfl rfl HT0.out (by kernel_rfl) (all_oneCell_toArray (Rg.cells_one _)) ?_))
            refine hide_out HQ0 ?_
            go_step
            go_roundw
            case rel =>
              obtain ⟨k', g1, rfl, g3⟩ := HSK.out (by simp [has]; omega)
              exact ⟨k + 1, g1, by go_num, g3, trivial⟩
            case measure => simp [intOf]; omega
        · have h1d : decide (ra ≤ h) = false := by simpa using h1
          go_wp2_with (first
            | (refine wpList_unguard rfl ?_)
            | (refine wpList_load_at rfl 31 _ rfl _ rfl [Value.int .i64 ra, .int .i64 rb, .int .i64 rc, .int .i64 rd] _ HRA.out Try.underlying31 rfl (by kernel_rfl) ?_)
            | (refine wpList_store_mid rfl 31 _ _ rfl w.heap.size 0 (Rg.cells ⟨ra, rb, rc, rd⟩).toArray rfl rfl HT0.out (by kernel_rfl) (all_oneCell_toArray (Rg.cells_one _)) ?_))
          refine hide_out HQ0 ?_
          go_step
          go_roundw
          case rel =>
            obtain ⟨k', g1, rfl, g3⟩ := HSK.out (by simp [has]; omega)
            exact ⟨k + 1, g1, by go_num, g3, trivial⟩
          case measure => simp [intOf]; omega
      · obtain rfl : n = k := by omega
        have HE : Hid (l.find? (has h) = none) := Lib.hid (find_none_of (fun j x hj hx => HN.out j x (by have := HL.out; omega) hx))
        go_wp2
        refine hide_out HQ0 ?_
        go_wp2_with (refine wpList_store_mid rfl 31 _ _ rfl w.heap.size 0 (Rg.cells zeroR).toArray rfl rfl HT0.out (by kernel_rfl) (all_oneCell_toArray (Rg.cells_one _)) ?_)
        refine ret_cell 4 5 31 rfl w.heap.size (Rg.cells zeroR) _ rfl (World.rangeAt_setCells_same _ _ _ _ HT0.out) Try.underlying31 rfl (by kernel_rfl) rfl ?_
        refine ⟨by rw [HF.out, HE.out] <;> rfl, Below.setCells _ (Nat.le_refl _) _ _ HB2.out⟩
end
end Go.Proofs.Ytbgnmkjjfaepiaa
