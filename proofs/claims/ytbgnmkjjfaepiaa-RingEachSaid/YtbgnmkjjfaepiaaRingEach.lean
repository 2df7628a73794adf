import Derived.Test.YtbgnmkjjfaepiaaRingEachPlain
import Derived.Test.YtbgnmkjjfaepiaaRingAwake
import Derived.Test.YtbgnmkjjfaepiaaRingFrame
namespace Go.Proofs.Ytbgnmkjjfaepiaa
open Go.ChangeShapes Go.WideShapes Go.ChangeAt Go.RowKit Go.Deep Go.Joins
set_option linter.unusedVariables false

/-- A slice of numbers that came in. -/
theorem open_nums {H : Type} {enc : TypeId × Value → H} {W : World} {v : Value} {d : DataW H} {p : List MemPlace} {r : Reach} {b : Nat}
    (hv : Value.okWide Try.prog W r b 44 v) (h : DataW.Trod enc Try.prog W 0 (fun _ => true) true 44 v d p) :
    ∃ (A : Option Addr) (n c : Nat) (zs : List Int), v = .slice A n c ∧ Reads W W.heap.size 1 A n (zs.map (Value.int .i64)) ∧ (∀ z ∈ zs, -9223372036854775808 ≤ z ∧ z ≤ 9223372036854775807) ∧ n ≤ c ∧ c ≤ maxLen := by
  obtain ⟨A, n, c, rfl⟩ := okWide_slice Try.underlying44 hv
  obtain ⟨fuel, hf⟩ := h
  rcases open_ints Try.underlying44 Try.underlying3 (by kernel_rfl) hf with ⟨hcs, _⟩ | ⟨x, l, cap, zs, hcs, _, hl, hm, hz, _, hcell, hwz⟩
  · simp [Value.cells] at hcs
    obtain ⟨rfl, rfl, rfl⟩ := hcs
    exact ⟨none, 0, 0, [], rfl, Reads.none_, fun z h => by simp at h, Nat.le_refl _, Nat.zero_le _⟩
  · simp [Value.cells] at hcs
    obtain ⟨rfl, rfl, rfl⟩ := hcs
    have hz' : zs.length = c := by simpa using hz
    refine ⟨some x, n, c, zs.take n, rfl, ⟨by simp; omega, fun h0 => ⟨x, rfl, ?_, fun j u hu => ?_⟩⟩, fun z hzm => wf_int (hwz z (List.mem_of_mem_take hzm)), hl, hm⟩
    · have h := World.block_lt_of_cell? W _ (hcell 0 (by omega))
      rwa [block_of_add] at h
    · rw [List.getElem?_map, Option.map_eq_some_iff] at hu
      obtain ⟨z, hz1, rfl⟩ := hu
      have hj : j < n := by
        have := (List.getElem?_eq_some_iff.1 hz1).1
        simp at this; omega
      have hzj : zs[j]? = some z := by rw [List.getElem?_take, if_pos hj] at hz1; exact hz1
      rw [hcell j (by omega)]
      simp [List.getD, hzj]

theorem Reads.setOther {w : World} {B size n b o : Nat} {A : Option Addr} {xs vs : List Value} (h : Reads w B size A n xs) (hne : ∀ ad, A = some ad → ad.block ≠ b) : Reads (w.setCells b o vs) B size A n xs :=
  ⟨h.1, fun hn => by
    obtain ⟨ad, e, hb, hc⟩ := h.2 hn
    refine ⟨ad, e, hb, fun j u hu => ?_⟩
    rw [World.cell?_setCells_out b vs o w (ad.add j) (fun e2 _ => absurd (by rw [block_of_add] at e2; exact e2) (hne ad e))]
    exact hc j u hu⟩
theorem owns_apart {w : World} {base n c b : Nat} {e : TypeId} {A : Option Addr} {l : List Rg} (h : Owns w base e 4 (.slice A n c) n (rowCells l)) (hn : 0 < n) (hb : b < base) : ∀ ad, A = some ad → ad.block ≠ b := fun ad e1 => by
  rcases h with h | ⟨h0, _⟩
  · rcases h.2 with ⟨_, h0⟩ | ⟨g, cap, cur, hv, hg, _⟩
    · omega
    · injection hv with hv
      subst e1
      injection hv with hv
      subst hv
      show g ≠ b
      omega
  · omega
theorem wpList_ne_same {w : World} {ops : Array Oper} {rest : List Oper} {op : Oper} {a : Act} {Q : Exit → Act → World → Prop} (hgd : op.guard = none) (x y : Operand)
    (ho : op.op = .binOp .neq 31 x y 31) (r : Rg) (hx : a.eval x = r.val) (hy : a.eval y = r.val)
    (h : wpList Try.prog ops Q rest (a.put op.dst (.bool false)) w) : wpList Try.prog ops Q (op :: rest) a w :=
  wpList_ne_rg hgd x y ho r r hx hy (by simpa using h)
theorem newL_sound : ∀ N : Nat, N < 6 → 1 ≤ N → soundL (newL (N : Int)) = true ∧ newE (N : Int) = 0 := by decide +kernel

theorem sound_wf' {l : List Rg} (h : soundL l = true) : ∀ r ∈ l, r.wf := fun r hr => by
  obtain ⟨h1, h2, h3, h4, h5⟩ := sg_mem (sound_parts h).1 r hr
  simp [ownedL] at h5
  unfold Rg.wf
  omega

set_option maxRecDepth 100000 in
set_option maxHeartbeats 8000000 in
theorem ringEach_walk (w : World) (N : Int) (w0 : (Lit.int .i64 N).wf = true) (A : Option Addr) (n c : Nat) (zs : List Int) (hz : Reads w w.heap.size 1 A n (zs.map (Value.int .i64))) (hzw : ∀ z ∈ zs, -9223372036854775808 ≤ z ∧ z ≤ 9223372036854775807) (hnc : n ≤ c) (hm : c ≤ maxLen)
    (hash : Int) (w2 : (Lit.int .i64 hash).wf = true) :
    Calls Try.prog 7 #[.int .i64 N, .slice A n c, .int .i64 hash] w (RetTrue w) := by
  obtain ⟨hn0, hn1⟩ := wf_int w0
  have hmx : n ≤ 9223372036854775807 := by unfold maxLen at hm; omega
  have HZ := Lib.hid hz
  have HZW := Lib.hid hzw
  clear w0 w2 hz hzw
  have hbad : (N < 1) ∨ (¬ N < 1 ∧ 5 < N) ∨ (¬ N < 1 ∧ ¬ 5 < N ∧ 70 < n) ∨ (¬ N < 1 ∧ ¬ 5 < N ∧ ¬ 70 < n ∧ hash < 0) ∨ (¬ N < 1 ∧ ¬ 5 < N ∧ ¬ 70 < n ∧ ¬ hash < 0 ∧ 4294967295 < hash) ∨ (¬ N < 1 ∧ ¬ 5 < N ∧ ¬ 70 < n ∧ ¬ hash < 0 ∧ ¬ 4294967295 < hash) := by omega
  rcases hbad with g1 | ⟨g0, g1⟩ | ⟨g0, g2, g1⟩ | ⟨g0, g2, g3, g1⟩ | ⟨g0, g2, g3, g4, g1⟩ | ⟨g0, g2, g3, g4, g5⟩
  · go_enter Try.func7, Try.ntmps7
    go_wp2_with (first
      | (refine wpList_unguard rfl ?_)
      | (go_at_call 11; refine (awake_any _).mono ?_; rintro e w' ⟨rfl, hb⟩))
    go_ret
    exact ⟨rfl, hb⟩
  · have d1 : decide (N < 1) = false := by simp; omega
    go_enter Try.func7, Try.ntmps7
    go_wp2_with (first
      | (refine wpList_unguard rfl ?_)
      | (go_at_call 11; refine (awake_any _).mono ?_; rintro e w' ⟨rfl, hb⟩))
    go_ret
    exact ⟨rfl, hb⟩
  · have d1 : decide (N < 1) = false := by simp; omega
    have d2 : decide (5 < N) = false := by simp; omega
    have g1i : (70 : Int) < (n : Int) := by omega
    go_enter Try.func7, Try.ntmps7
    go_wp2_with (first
      | (refine wpList_unguard rfl ?_)
      | (go_at_call 11; refine (awake_any _).mono ?_; rintro e w' ⟨rfl, hb⟩))
    go_ret
    exact ⟨rfl, hb⟩
  · have d1 : decide (N < 1) = false := by simp; omega
    have d2 : decide (5 < N) = false := by simp; omega
    have d3 : decide ((70 : Int) < (n : Int)) = false := by simp; omega
    go_enter Try.func7, Try.ntmps7
    go_wp2_with (first
      | (refine wpList_unguard rfl ?_)
      | (go_at_call 11; refine (awake_any _).mono ?_; rintro e w' ⟨rfl, hb⟩))
    go_ret
    exact ⟨rfl, hb⟩
  · have d1 : decide (N < 1) = false := by simp; omega
    have d2 : decide (5 < N) = false := by simp; omega
    have d3 : decide ((70 : Int) < (n : Int)) = false := by simp; omega
    have d4 : decide (hash < 0) = false := by simp; omega
    go_enter Try.func7, Try.ntmps7
    go_wp2_with (first
      | (refine wpList_unguard rfl ?_)
      | (go_at_call 11; refine (awake_any _).mono ?_; rintro e w' ⟨rfl, hb⟩))
    go_ret
    exact ⟨rfl, hb⟩
  obtain ⟨M, rfl⟩ : ∃ M : Nat, N = (M : Int) := ⟨N.toNat, by omega⟩
  have d1 : decide ((M : Int) < 1) = false := by simp; omega
  have d2 : decide ((5 : Int) < (M : Int)) = false := by simp; omega
  have d3 : decide ((70 : Int) < (n : Int)) = false := by simp; omega
  have d4 : decide (hash < 0) = false := by simp; omega
  have d5 : decide (4294967295 < hash) = false := by simp; omega
  obtain ⟨hs0, he0⟩ := newL_sound M (by omega) (by omega)
  have HNEW : Hid (Calls Try.prog 12 #[.int .i64 (M : Int)] w (RetRow w (newL (M : Int)) 0)) := Lib.hid (by have := new_any w (M : Int) (by omega) (by omega); rwa [he0] at this)
  obtain ⟨j0, was0, hj0, hh0, hf0⟩ := each_found (h := hash) hs0 (by omega) (by omega)
  generalize newL (M : Int) = l0 at *
  obtain ⟨L0, hL0⟩ : ∃ L, l0.length = L := ⟨_, rfl⟩
  have hL64 : L0 ≤ 64 := by rw [← hL0]; exact (sound_parts hs0).2
  have HNEW' : Hid (Calls Try.prog 12 #[.int .i64 (M : Int)] w fun e w' => ∃ A c, e = .returned (.tuple #[.slice A L0 c, .int .i64 0]) ∧ L0 ≤ c ∧ c ≤ maxLen ∧ Hid (Reads w' w'.heap.size 4 A L0 (rowCells l0)) ∧ Hid (Below w.heap.size w w')) := Lib.hid (HNEW.out.mono fun e w' h => by
    obtain ⟨A, c, h1, h2, h3, h4, h5⟩ := h
    rw [hL0] at h1 h2 h4
    exact ⟨A, c, h1, h2, h3, Lib.hid h4, Lib.hid h5⟩)
  obtain ⟨wa0, wb0, wc0, wd0⟩ := was0
  -- what is called with a sound row of ranges
  have HSO : Hid (∀ (W : World) (A : Option Addr) (c L : Nat) (l : List Rg), soundL l = true → l.length = L → Reads W W.heap.size 4 A L (rowCells l) → Calls Try.prog 19 #[.slice A L c] W (RetB W true)) := Lib.hid fun W A c L l h1 h2 h3 => by
    have := sound_any W A L c l h3 (sound_wf' h1) h2 (by rw [← h2]; have := (sound_parts h1).2; unfold maxLen; omega)
    rwa [h1] at this
  have HFI : Hid (∀ (W : World) (A : Option Addr) (c L : Nat) (l : List Rg) (a b c' d : Int), soundL l = true → l.length = L → Reads W W.heap.size 4 A L (rowCells l) → findL l hash = some ⟨a, b, c', d⟩ →
      Calls Try.prog 14 #[.slice A L c, .int .i64 hash] W fun e w' => e = .returned (.tuple #[.agg #[.int .i64 a, .int .i64 b, .int .i64 c', .int .i64 d], .bool true]) ∧ Below W.heap.size W w') := Lib.hid fun W A c L l a b c' d h1 h2 h3 h4 => by
    have := find_any W A L c l hash h3 (sound_wf' h1) h2 (by rw [← h2]; have := (sound_parts h1).2; unfold maxLen; omega)
    unfold RetF at this
    rw [h4] at this
    exact this
  clear HNEW
  go_enter Try.func7, Try.ntmps7
  go_upto_region 7 with (first
    | (refine wpList_unguard rfl ?_)
    | (go_at_call 12; refine HNEW'.out.mono ?_; rintro e w1 ⟨A1, c1, rfl, hc1, hm1, hr1, hb1⟩)
    | (go_at_call 19; refine (HSO.out _ _ _ _ l0 hs0 hL0 hr1.out).mono ?_; rintro e w2 ⟨rfl, hb2⟩)
    | (go_at_call 14; refine (HFI.out _ _ _ _ l0 _ _ _ _ hs0 hL0 ((hr1.out.below hb2).more hb2.size) hf0).mono ?_; rintro e w3 ⟨rfl, hb3⟩))
  have hpos0 : 0 < L0 := by rw [← hL0]; exact sound_pos hs0
  have hap0 : ∀ ad, A1 = some ad → ad.block ≠ w3.heap.size := fun ad e => by
    obtain ⟨ad', e', hlt, _⟩ := hr1.out.2 hpos0
    rw [e] at e'; injection e' with e'; subst e'
    have := hb2.size; have := hb3.size; omega
  have k13 : Below w1.heap.size w1 w3 := hb2.trans (hb3.mono hb2.size)
  have HW4 : Hid (Below w.heap.size w (w3.alloc (.cells #[.int .i64 wa0, .int .i64 wb0, .int .i64 wc0, .int .i64 wd0] 31))) :=
    Lib.hid ((hb1.out.trans (k13.mono hb1.out.size)).alloc (by have := hb1.out.size; have := k13.size; omega) _)
  have HR4 : Hid (Reads (w3.alloc (.cells #[.int .i64 wa0, .int .i64 wb0, .int .i64 wc0, .int .i64 wd0] 31)) (w3.alloc (.cells #[.int .i64 wa0, .int .i64 wb0, .int .i64 wc0, .int .i64 wd0] 31)).heap.size 4 A1 L0 (rowCells l0)) :=
    Lib.hid ((hr1.out.below (k13.alloc k13.size _)).more (by rw [alloc_size]; have := k13.size; omega))
  have H94 : Hid ((w3.alloc (.cells #[.int .i64 wa0, .int .i64 wb0, .int .i64 wc0, .int .i64 wd0] 31)).rangeAt w3.heap.size 0 (Rg.cells ⟨wa0, wb0, wc0, wd0⟩) ∧ (w3.alloc (.cells #[.int .i64 wa0, .int .i64 wb0, .int .i64 wc0, .int .i64 wd0] 31)).there w3.heap.size 0 4 ∧ w3.heap.size < (w3.alloc (.cells #[.int .i64 wa0, .int .i64 wb0, .int .i64 wc0, .int .i64 wd0] 31)).heap.size) :=
    Lib.hid ⟨range_new w3 (Rg.cells ⟨wa0, wb0, wc0, wd0⟩) _, there_new w3 (Rg.cells ⟨wa0, wb0, wc0, wd0⟩) _, by rw [alloc_size]; omega⟩
  have HB9 : Hid (w.heap.size ≤ w3.heap.size) := Lib.hid (by have := hb1.out.size; have := k13.size; omega)
  have HAP := Lib.hid hap0
  have HF0 : Hid (soundL l0 = true ∧ l0.length = L0 ∧ l0[j0]? = some ⟨wa0, wb0, wc0, wd0⟩ ∧ has hash ⟨wa0, wb0, wc0, wd0⟩ = true ∧ findL l0 hash = some ⟨wa0, wb0, wc0, wd0⟩) := Lib.hid ⟨hs0, hL0, hj0, hh0, hf0⟩
  clear hr1 hb1 hb2 hb3 k13 hap0 hs0 hL0 hj0 hh0 hf0 he0
  generalize w3.alloc (.cells #[.int .i64 wa0, .int .i64 wb0, .int .i64 wc0, .int .i64 wd0] 31) = W4 at *
  generalize w3.heap.size = b9 at *
  go_wp2
  go_loopw [7, 11] (fun v i wr => ∃ (k j L : Nat) (A' : Option Addr) (c' : Nat) (l : List Rg) (wa wb wc wd : Int), k ≤ n ∧ i = .int .i64 k ∧ v = .slice A' L c' ∧ L ≤ c' ∧ c' ≤ maxLen ∧
    Hid (soundL l = true ∧ l.length = L ∧ l[j]? = some ⟨wa, wb, wc, wd⟩ ∧ has hash ⟨wa, wb, wc, wd⟩ = true ∧ findL l hash = some ⟨wa, wb, wc, wd⟩) ∧ Hid (Reads wr wr.heap.size 4 A' L (rowCells l)) ∧ Hid (∀ ad, A' = some ad → ad.block ≠ b9) ∧
    Hid (wr.rangeAt b9 0 (Rg.cells ⟨wa, wb, wc, wd⟩) ∧ wr.there b9 0 4 ∧ b9 < wr.heap.size) ∧ Hid (Below w.heap.size w wr)) (fun _ i _ => n - (intOf i).toNat)
  case atStart => exact ⟨0, j0, L0, A1, c1, l0, wa0, wb0, wc0, wd0, Nat.zero_le _, rfl, rfl, hc1, hm1, HF0, HR4, HAP, H94, HW4⟩
  case round =>
    obtain ⟨k, j, L, A', c', l, wa, wb, wc, wd, hk, rfl, rfl, hLc, hcm, HF, HR, HA', H9, HB⟩ := hrel
    have HCM := Lib.hid hcm
    have hL64' : L ≤ 64 := by rw [← HF.out.2.1]; exact (sound_parts HF.out.1).2
    clear hcm
    by_cases hlt : k < n
    · refine code_hide (fun Q0 HQ0 => ?_)
      obtain ⟨adc, u, rfl, _, hzu, hcz⟩ := (HZ.out.below HB.out).at_ hlt
      obtain ⟨z, hzk, rfl⟩ : ∃ z, zs[k]? = some z ∧ u = .int .i64 z := by
        rw [List.getElem?_map, Option.map_eq_some_iff] at hzu
        obtain ⟨z, h1, h2⟩ := hzu
        exact ⟨z, h1, h2.symm⟩
      have hzb := HZW.out z (List.mem_of_getElem? hzk)
      obtain ⟨m, e, hsp⟩ : ∃ m e, splitL l z = (m, e) := ⟨_, _, rfl⟩
      have hst := each_step HF.out.1 HF.out.2.2.1 HF.out.2.2.2.1 hsp
      have HSP : Hid (Calls Try.prog 25 #[.slice A' L c', .int .i64 z] wr (RetRowO wr m e)) := Lib.hid (by
        have := split_own wr A' L c' l z HR.out (sound_wf' HF.out.1) HF.out.2.1 hLc HCM.out hzb.1 hzb.2
        rwa [hsp] at this)
      have HZK := Lib.hid hzk
      clear hzu hzk hsp
      rcases hst with ⟨he, hme⟩ | ⟨he, hms, hml, j', now, hj', hnh, hnf, hnc', hnd⟩
      · subst hme
        have eb : (e != 0) = true := by simpa using he
        have eb' : (e == 0) = false := by simpa using he
        go_wp2_with (first
          | (refine wpList_unguard rfl ?_)
          | (go_at_call 25; refine HSP.out.mono ?_; rintro e' w5 ⟨A5, c5, rfl, _, _, _, hb5⟩))
        refine hide_out HQ0 ?_
        go_step
        go_roundw
        case rel => exact ⟨k + 1, j, L, A', c', l, wa, wb, wc, wd, by omega, by go_num, rfl, hLc, HCM.out, HF, Lib.hid ((HR.out.below hb5).more hb5.size), HA',
            Lib.hid ⟨range_below_at H9.out.1 hb5 H9.out.2.2, there_below H9.out.2.1 hb5 H9.out.2.2, by have := H9.out.2.2; have := hb5.size; omega⟩, Lib.hid (HB.out.trans (hb5.mono HB.out.size))⟩
        case measure => simp [intOf]; omega
      · subst he
        obtain ⟨na, nb, nc, nd⟩ := now
        simp only at hnc'
        subst hnc'
        obtain ⟨Lm, hLm⟩ : ∃ Lm, m.length = Lm := ⟨_, rfl⟩
        have hLm' : Lm = L + 1 := by rw [← hLm, hml, HF.out.2.1]
        have HSP' : Hid (Calls Try.prog 25 #[.slice A' L c', .int .i64 z] wr fun e w' => ∃ A c, e = .returned (.tuple #[.slice A (L + 1) c, .int .i64 0]) ∧ L + 1 ≤ c ∧ c ≤ maxLen ∧ Hid (Reads w' w'.heap.size 4 A (L + 1) (rowCells m)) ∧ Hid (∀ ad, A = some ad → ad.block ≠ b9) ∧ Below wr.heap.size wr w') := Lib.hid (HSP.out.mono fun e w' h => by
          obtain ⟨A, c, h1, h2, h3, h4, h5⟩ := h
          rw [hLm, hLm'] at h1 h2 h4
          obtain ⟨A2, c2, ev, _, _, hrd⟩ := h4.form
          injection ev with ev1 _ ev3
          subst ev1 ev3
          exact ⟨A, c, h1, h2, h3, Lib.hid hrd, Lib.hid (owns_apart h4 (by omega) H9.out.2.2), h5⟩)
        have HN : Hid (soundL m = true ∧ m.length = L + 1 ∧ m[j']? = some ⟨na, nb, nc, nd⟩ ∧ has hash ⟨na, nb, nc, nd⟩ = true ∧ findL m hash = some ⟨na, nb, nc, nd⟩) := Lib.hid ⟨hms, by rw [hLm, hLm'], hj', hnh, hnf⟩
        have HND := Lib.hid hnd
        have hwd : 1 ≤ wd ∧ wd ≤ 1099511627776 := by
          have := (sg_mem (sound_parts HF.out.1).1 _ (List.mem_of_getElem? HF.out.2.2.1)).2.2.2.2
          simp [ownedL] at this; omega
        clear hms hml hj' hnh hnf hnd hLm hLm' HSP
        go_upto_region 15 with (first
          | (go_at_call 25; refine HSP'.out.mono ?_; rintro e w5 ⟨A5, c5, rfl, hc5, hm5, hr5, ha5, hb5⟩)
          | (go_at_call 14; refine (HFI.out _ _ _ _ m _ _ _ _ HN.out.1 HN.out.2.1 hr5.out HN.out.2.2.2.2).mono ?_; rintro e w6 ⟨rfl, hb6⟩))
        have k6 : Below wr.heap.size wr (w6.alloc (.cells #[.int .i64 na, .int .i64 nb, .int .i64 nc, .int .i64 nd] 31)) := (hb5.trans (hb6.mono hb5.size)).alloc (by have := hb5.size; have := hb6.size; omega) _
        have G6 : Hid (Reads (w6.alloc (.cells #[.int .i64 na, .int .i64 nb, .int .i64 nc, .int .i64 nd] 31)) (w6.alloc (.cells #[.int .i64 na, .int .i64 nb, .int .i64 nc, .int .i64 nd] 31)).heap.size 4 A5 (L + 1) (rowCells m) ∧ (w6.alloc (.cells #[.int .i64 na, .int .i64 nb, .int .i64 nc, .int .i64 nd] 31)).rangeAt w6.heap.size 0 (Rg.cells ⟨na, nb, nc, nd⟩) ∧ (w6.alloc (.cells #[.int .i64 na, .int .i64 nb, .int .i64 nc, .int .i64 nd] 31)).rangeAt b9 0 (Rg.cells ⟨wa, wb, nc, wd⟩) ∧ (w6.alloc (.cells #[.int .i64 na, .int .i64 nb, .int .i64 nc, .int .i64 nd] 31)).there b9 0 4 ∧ w6.heap.size < (w6.alloc (.cells #[.int .i64 na, .int .i64 nb, .int .i64 nc, .int .i64 nd] 31)).heap.size ∧ b9 < (w6.alloc (.cells #[.int .i64 na, .int .i64 nb, .int .i64 nc, .int .i64 nd] 31)).heap.size ∧ Below w.heap.size w (w6.alloc (.cells #[.int .i64 na, .int .i64 nb, .int .i64 nc, .int .i64 nd] 31))) :=
          Lib.hid ⟨(hr5.out.below (hb6.alloc hb6.size _)).more (by rw [alloc_size]; have := hb6.size; omega), range_new w6 (Rg.cells ⟨na, nb, nc, nd⟩) _, range_below_at H9.out.1 k6 H9.out.2.2, there_below H9.out.2.1 k6 H9.out.2.2, by rw [alloc_size]; omega, by have := H9.out.2.2; have := k6.size; omega, HB.out.trans (k6.mono HB.out.size)⟩
        have HM5 := Lib.hid hm5
        clear hr5 hb5 hb6 k6 hm5
        generalize (w6.alloc (.cells #[.int .i64 na, .int .i64 nb, .int .i64 nc, .int .i64 nd] 31)) = W6 at *
        generalize w6.heap.size = b14 at *
        have cz6 : W6.cell? (adc.add k) = some (.int .i64 z) := by
          obtain ⟨adc', u', e1, _, hu', hcz'⟩ := (HZ.out.below G6.out.2.2.2.2.2.2).at_ hlt
          injection e1 with e1
          subst e1
          rw [List.getElem?_map, HZK.out] at hu'
          injection hu' with hu'
          rw [hcz', ← hu']
        have q0 : W6.cell? ⟨b9, 0, none⟩ = some (.int .i64 wa) := G6.out.2.2.1 0 _ rfl
        have q1 : W6.cell? ⟨b9, 1, none⟩ = some (.int .i64 wb) := G6.out.2.2.1 1 _ rfl
        clear hcz
        by_cases h1 : wa ≤ z
        · by_cases h2 : z ≤ wb
          · have hnd : nd = wd + 1 := by
              rcases HND.out with ⟨_, h⟩ | ⟨h, _⟩
              · exact h
              · have h3 := (has_iff (h := z) (r := ⟨wa, wb, nc, wd⟩)).2 ⟨h1, h2⟩; rw [h3] at h; cases h
            subst hnd
            go_quiet (fail)
            have G7 : Hid (Reads (W6.drewN nq) (W6.drewN nq).heap.size 4 A5 (L + 1) (rowCells m) ∧ (W6.drewN nq).rangeAt b14 0 (Rg.cells ⟨na, nb, nc, wd + 1⟩) ∧ (W6.drewN nq).rangeAt b9 0 (Rg.cells ⟨wa, wb, nc, wd⟩) ∧ (W6.drewN nq).there b9 0 4 ∧ b14 < (W6.drewN nq).heap.size ∧ b9 < (W6.drewN nq).heap.size ∧ Below w.heap.size w (W6.drewN nq)) := Lib.hid ⟨G6.out.1, G6.out.2.1, G6.out.2.2.1, G6.out.2.2.2.1, G6.out.2.2.2.2.1, G6.out.2.2.2.2.2.1, below_drewN G6.out.2.2.2.2.2.2 _⟩
            clear G6 cz6 q0 q1
            generalize W6.drewN nq = W7 at *
            go_wp2_with (first
              | (refine wpList_unguard rfl ?_)
              | (go_at_call 19; refine (HSO.out _ _ _ _ m HN.out.1 HN.out.2.1 G7.out.1).mono ?_; rintro e w8 ⟨rfl, hb8⟩; have f1 : w8.cell? ⟨b14, 2, none⟩ = some (.int .i64 nc) := (range_below_at G7.out.2.1 hb8 G7.out.2.2.2.2.1) 2 _ rfl; have f2 : w8.cell? ⟨b14, 3, none⟩ = some (.int .i64 (wd + 1)) := (range_below_at G7.out.2.1 hb8 G7.out.2.2.2.2.1) 3 _ rfl; have f3 : w8.cell? ⟨b9, 2, none⟩ = some (.int .i64 nc) := (range_below_at G7.out.2.2.1 hb8 G7.out.2.2.2.2.2.1) 2 _ rfl; have f4 : w8.cell? ⟨b9, 3, none⟩ = some (.int .i64 wd) := (range_below_at G7.out.2.2.1 hb8 G7.out.2.2.2.2.2.1) 3 _ rfl)
              | (refine wpList_load_mid rfl 31 _ rfl b14 0 rfl (Rg.cells ⟨na, nb, nc, wd + 1⟩) _ (range_below_at G7.out.2.1 hb8 G7.out.2.2.2.2.1) Try.underlying31 rfl (by kernel_rfl) ?_)
              | (refine wpList_load_mid rfl 31 _ rfl b9 0 rfl (Rg.cells ⟨wa, wb, nc, wd⟩) _ (range_below_at G7.out.2.2.1 hb8 G7.out.2.2.2.2.2.1) Try.underlying31 rfl (by kernel_rfl) ?_)
              | (refine wpList_ne_same rfl _ _ rfl ⟨na, nb, nc, wd + 1⟩ rfl rfl ?_)
              | (refine wpList_store_mid rfl 31 _ _ rfl b9 0 (Rg.cells ⟨na, nb, nc, wd + 1⟩).toArray rfl rfl (there_below G7.out.2.2.2.1 hb8 G7.out.2.2.2.2.2.1) (by kernel_rfl) (all_oneCell_toArray (Rg.cells_one _)) ?_))
            refine hide_out HQ0 ?_
            go_step
            go_roundw
            case rel => exact ⟨k + 1, j', L + 1, A5, c5, m, na, nb, nc, wd + 1, by omega, by go_num, rfl, hc5, HM5.out, HN,
                Lib.hid (by rw [size_setCells]; exact (((G7.out.1.below hb8).more hb8.size).setOther ha5.out)), ha5,
                Lib.hid ⟨World.rangeAt_setCells_same _ _ _ _ (there_below G7.out.2.2.2.1 hb8 G7.out.2.2.2.2.2.1), World.there_setCells (there_below G7.out.2.2.2.1 hb8 G7.out.2.2.2.2.2.1) _ _ _, by rw [size_setCells]; have := G7.out.2.2.2.2.2.1; have := hb8.size; omega⟩,
                Lib.hid (Below.setCells b9 HB9.out _ _ (G7.out.2.2.2.2.2.2.trans (hb8.mono G7.out.2.2.2.2.2.2.size)))⟩
            case measure => simp [intOf]; omega
          · have h2d : decide (z ≤ wb) = false := by simpa using h2
            obtain ⟨rfl, rfl, rfl⟩ : na = wa ∧ nb = wb ∧ nd = wd := by
              rcases HND.out with ⟨h, _⟩ | ⟨_, h⟩
              · have := has_iff.1 h; simp only at this; omega
              · injection h with e1 e2 e3 e4; exact ⟨e1, e2, e4⟩
            have ew : (nd == nd + 1) = false := by rw [beq_eq_false_iff_ne]; omega
            go_quiet (fail)
            have G7 : Hid (Reads (W6.drewN nq) (W6.drewN nq).heap.size 4 A5 (L + 1) (rowCells m) ∧ (W6.drewN nq).rangeAt b14 0 (Rg.cells ⟨na, nb, nc, nd⟩) ∧ (W6.drewN nq).rangeAt b9 0 (Rg.cells ⟨na, nb, nc, nd⟩) ∧ (W6.drewN nq).there b9 0 4 ∧ b14 < (W6.drewN nq).heap.size ∧ b9 < (W6.drewN nq).heap.size ∧ Below w.heap.size w (W6.drewN nq)) := Lib.hid ⟨G6.out.1, G6.out.2.1, G6.out.2.2.1, G6.out.2.2.2.1, G6.out.2.2.2.2.1, G6.out.2.2.2.2.2.1, below_drewN G6.out.2.2.2.2.2.2 _⟩
            clear G6 cz6 q0 q1
            generalize W6.drewN nq = W7 at *
            go_wp2_with (first
              | (refine wpList_unguard rfl ?_)
              | (go_at_call 19; refine (HSO.out _ _ _ _ m HN.out.1 HN.out.2.1 G7.out.1).mono ?_; rintro e w8 ⟨rfl, hb8⟩; have f1 : w8.cell? ⟨b14, 2, none⟩ = some (.int .i64 nc) := (range_below_at G7.out.2.1 hb8 G7.out.2.2.2.2.1) 2 _ rfl; have f2 : w8.cell? ⟨b14, 3, none⟩ = some (.int .i64 nd) := (range_below_at G7.out.2.1 hb8 G7.out.2.2.2.2.1) 3 _ rfl; have f3 : w8.cell? ⟨b9, 2, none⟩ = some (.int .i64 nc) := (range_below_at G7.out.2.2.1 hb8 G7.out.2.2.2.2.2.1) 2 _ rfl; have f4 : w8.cell? ⟨b9, 3, none⟩ = some (.int .i64 nd) := (range_below_at G7.out.2.2.1 hb8 G7.out.2.2.2.2.2.1) 3 _ rfl)
              | (refine wpList_load_mid rfl 31 _ rfl b14 0 rfl (Rg.cells ⟨na, nb, nc, nd⟩) _ (range_below_at G7.out.2.1 hb8 G7.out.2.2.2.2.1) Try.underlying31 rfl (by kernel_rfl) ?_)
              | (refine wpList_load_mid rfl 31 _ rfl b9 0 rfl (Rg.cells ⟨na, nb, nc, nd⟩) _ (range_below_at G7.out.2.2.1 hb8 G7.out.2.2.2.2.2.1) Try.underlying31 rfl (by kernel_rfl) ?_)
              | (refine wpList_ne_same rfl _ _ rfl ⟨na, nb, nc, nd⟩ rfl rfl ?_)
              | (refine wpList_store_mid rfl 31 _ _ rfl b9 0 (Rg.cells ⟨na, nb, nc, nd⟩).toArray rfl rfl (there_below G7.out.2.2.2.1 hb8 G7.out.2.2.2.2.2.1) (by kernel_rfl) (all_oneCell_toArray (Rg.cells_one _)) ?_))
            refine hide_out HQ0 ?_
            go_step
            go_roundw
            case rel => exact ⟨k + 1, j', L + 1, A5, c5, m, na, nb, nc, nd, by omega, by go_num, rfl, hc5, HM5.out, HN,
                Lib.hid (by rw [size_setCells]; exact (((G7.out.1.below hb8).more hb8.size).setOther ha5.out)), ha5,
                Lib.hid ⟨World.rangeAt_setCells_same _ _ _ _ (there_below G7.out.2.2.2.1 hb8 G7.out.2.2.2.2.2.1), World.there_setCells (there_below G7.out.2.2.2.1 hb8 G7.out.2.2.2.2.2.1) _ _ _, by rw [size_setCells]; have := G7.out.2.2.2.2.2.1; have := hb8.size; omega⟩,
                Lib.hid (Below.setCells b9 HB9.out _ _ (G7.out.2.2.2.2.2.2.trans (hb8.mono G7.out.2.2.2.2.2.2.size)))⟩
            case measure => simp [intOf]; omega
        · have h1d : decide (wa ≤ z) = false := by simpa using h1
          obtain ⟨rfl, rfl, rfl⟩ : na = wa ∧ nb = wb ∧ nd = wd := by
            rcases HND.out with ⟨h, _⟩ | ⟨_, h⟩
            · have := has_iff.1 h; simp only at this; omega
            · injection h with e1 e2 e3 e4; exact ⟨e1, e2, e4⟩
          have ew : (nd == nd + 1) = false := by rw [beq_eq_false_iff_ne]; omega
          go_quiet (fail)
          have G7 : Hid (Reads (W6.drewN nq) (W6.drewN nq).heap.size 4 A5 (L + 1) (rowCells m) ∧ (W6.drewN nq).rangeAt b14 0 (Rg.cells ⟨na, nb, nc, nd⟩) ∧ (W6.drewN nq).rangeAt b9 0 (Rg.cells ⟨na, nb, nc, nd⟩) ∧ (W6.drewN nq).there b9 0 4 ∧ b14 < (W6.drewN nq).heap.size ∧ b9 < (W6.drewN nq).heap.size ∧ Below w.heap.size w (W6.drewN nq)) := Lib.hid ⟨G6.out.1, G6.out.2.1, G6.out.2.2.1, G6.out.2.2.2.1, G6.out.2.2.2.2.1, G6.out.2.2.2.2.2.1, below_drewN G6.out.2.2.2.2.2.2 _⟩
          clear G6 cz6 q0 q1
          generalize W6.drewN nq = W7 at *
          go_wp2_with (first
            | (refine wpList_unguard rfl ?_)
            | (go_at_call 19; refine (HSO.out _ _ _ _ m HN.out.1 HN.out.2.1 G7.out.1).mono ?_; rintro e w8 ⟨rfl, hb8⟩; have f1 : w8.cell? ⟨b14, 2, none⟩ = some (.int .i64 nc) := (range_below_at G7.out.2.1 hb8 G7.out.2.2.2.2.1) 2 _ rfl; have f2 : w8.cell? ⟨b14, 3, none⟩ = some (.int .i64 nd) := (range_below_at G7.out.2.1 hb8 G7.out.2.2.2.2.1) 3 _ rfl; have f3 : w8.cell? ⟨b9, 2, none⟩ = some (.int .i64 nc) := (range_below_at G7.out.2.2.1 hb8 G7.out.2.2.2.2.2.1) 2 _ rfl; have f4 : w8.cell? ⟨b9, 3, none⟩ = some (.int .i64 nd) := (range_below_at G7.out.2.2.1 hb8 G7.out.2.2.2.2.2.1) 3 _ rfl)
            | (refine wpList_load_mid rfl 31 _ rfl b14 0 rfl (Rg.cells ⟨na, nb, nc, nd⟩) _ (range_below_at G7.out.2.1 hb8 G7.out.2.2.2.2.1) Try.underlying31 rfl (by kernel_rfl) ?_)
            | (refine wpList_load_mid rfl 31 _ rfl b9 0 rfl (Rg.cells ⟨na, nb, nc, nd⟩) _ (range_below_at G7.out.2.2.1 hb8 G7.out.2.2.2.2.2.1) Try.underlying31 rfl (by kernel_rfl) ?_)
            | (refine wpList_ne_same rfl _ _ rfl ⟨na, nb, nc, nd⟩ rfl rfl ?_)
            | (refine wpList_store_mid rfl 31 _ _ rfl b9 0 (Rg.cells ⟨na, nb, nc, nd⟩).toArray rfl rfl (there_below G7.out.2.2.2.1 hb8 G7.out.2.2.2.2.2.1) (by kernel_rfl) (all_oneCell_toArray (Rg.cells_one _)) ?_))
          refine hide_out HQ0 ?_
          go_step
          go_roundw
          case rel => exact ⟨k + 1, j', L + 1, A5, c5, m, na, nb, nc, nd, by omega, by go_num, rfl, hc5, HM5.out, HN,
              Lib.hid (by rw [size_setCells]; exact (((G7.out.1.below hb8).more hb8.size).setOther ha5.out)), ha5,
              Lib.hid ⟨World.rangeAt_setCells_same _ _ _ _ (there_below G7.out.2.2.2.1 hb8 G7.out.2.2.2.2.2.1), World.there_setCells (there_below G7.out.2.2.2.1 hb8 G7.out.2.2.2.2.2.1) _ _ _, by rw [size_setCells]; have := G7.out.2.2.2.2.2.1; have := hb8.size; omega⟩,
              Lib.hid (Below.setCells b9 HB9.out _ _ (G7.out.2.2.2.2.2.2.trans (hb8.mono G7.out.2.2.2.2.2.2.size)))⟩
          case measure => simp [intOf]; omega
    · obtain rfl : n = k := by omega
      have HFND := HF
      have hjL : j < L := by rw [← HF.out.2.1]; exact (List.getElem?_eq_some_iff.1 HF.out.2.2.1).1
      refine code_hide (fun Q0 HQ0 => ?_)
      go_wp2
      refine hide_out HQ0 ?_
      go_wp2
      go_loopw [17, 18] (fun s i w2 => ∃ (q : Nat) (t : Int), q ≤ L ∧ i = .int .i64 q ∧ s = .int .i64 t ∧ ((q ≤ j ∧ t = 0) ∨ (j < q ∧ t = 1)) ∧ Hid (w2 = wr)) (fun _ i _ => L - (intOf i).toNat)
      case atStart => exact ⟨0, 0, Nat.zero_le _, rfl, rfl, .inl ⟨Nat.zero_le _, rfl⟩, Lib.hid rfl⟩
      case round =>
        obtain ⟨q, t, hq, rfl, rfl, ht, HWR⟩ := hrel
        have hwr := HWR.out
        subst hwr
        clear HWR
        refine code_hide (fun Q1 HQ1 => ?_)
        by_cases hlt2 : q < L
        · obtain ⟨y, hyk⟩ : ∃ y, l[q]? = some y := ⟨_, List.getElem?_eq_getElem (by have := HF.out.2.1; omega)⟩
          obtain ⟨ya, yb, yc, yd⟩ := y
          obtain ⟨ad, rfl, _, hya⟩ := HR.out.range hyk hlt2
          have c0 := hya 0 (.int .i64 ya) rfl
          have c1 := hya 1 (.int .i64 yb) rfl
          rw [add_of_add, Nat.add_zero] at c0
          rw [add1 _ 1 (by omega)] at c1
          have HU : Hid (has hash ⟨ya, yb, yc, yd⟩ = true → q = j) := Lib.hid fun hh => sg_uniq (sound_parts HF.out.1).1 hyk HF.out.2.2.1 hh HF.out.2.2.2.1
          have HU2 : Hid (q = j → has hash ⟨ya, yb, yc, yd⟩ = true) := Lib.hid fun e => by
            subst e
            have h1 := HF.out.2.2.1
            rw [hyk] at h1; injection h1 with h1; rw [h1]; exact HF.out.2.2.2.1
          clear hya hyk
          by_cases h1 : ya ≤ hash
          · by_cases h2 : hash ≤ yb
            · have hqj : q = j := HU.out ((has_iff (h := hash) (r := ⟨ya, yb, yc, yd⟩)).2 ⟨h1, h2⟩)
              have ht0 : t = 0 := by omega
              subst ht0
              have HQJ := Lib.hid hqj
              clear hqj ht
              go_wp2_with (refine wpList_unguard rfl ?_)
              refine hide_out HQ1 ?_
              go_step
              go_roundw
              case rel => exact ⟨q + 1, 1, by omega, by go_num, rfl, .inr ⟨by have := HQJ.out; omega, rfl⟩, Lib.hid trivial⟩
              case measure => simp [intOf]; omega
            · have h2d : decide (hash ≤ yb) = false := by simpa using h2
              have hqj : q ≠ j := fun e => by have := has_iff.1 (HU2.out e); simp only at this; omega
              go_wp2_with (refine wpList_unguard rfl ?_)
              refine hide_out HQ1 ?_
              go_step
              go_roundw
              case rel => exact ⟨q + 1, t, by omega, by go_num, rfl, by omega, Lib.hid trivial⟩
              case measure => simp [intOf]; omega
          · have h1d : decide (ya ≤ hash) = false := by simpa using h1
            have hqj : q ≠ j := fun e => by have := has_iff.1 (HU2.out e); simp only at this; omega
            go_wp2_with (refine wpList_unguard rfl ?_)
            refine hide_out HQ1 ?_
            go_step
            go_roundw
            case rel => exact ⟨q + 1, t, by omega, by go_num, rfl, by omega, Lib.hid trivial⟩
            case measure => simp [intOf]; omega
        · have ht1 : t = 1 := by omega
          subst ht1
          clear ht
          go_wp2
          refine hide_out HQ1 ?_
          go_wp2_with (first
            | (refine wpList_unguard rfl ?_)
            | (go_at_call 11; refine (awake_any _).mono ?_; rintro e w' ⟨rfl, hb⟩))
          go_ret
          exact RetTrue.from HB.out ⟨rfl, hb⟩
end Go.Proofs.Ytbgnmkjjfaepiaa
