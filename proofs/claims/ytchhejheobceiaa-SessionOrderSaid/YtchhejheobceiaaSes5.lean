/- The walk of session.parse. No condition. -/
import Derived.Test.YtchhejheobceiaaSesP
namespace Go.Proofs.Ytchhejheobceiaa
open Go.RowKit
set_option linter.unusedVariables false
set_option linter.unusedSimpArgs false

theorem Row.some_ {w : World} {B n : Nat} {e : TypeId} {v : Value} {xs : List Value} (h : Row w B e v n xs) (hn : 0 < n) : ∃ g off c, v = .slice (some ⟨g, off, none⟩) n c ∧ B ≤ g ∧ n ≤ c ∧ c ≤ maxLen := by
  obtain ⟨h1, ⟨_, h0⟩ | ⟨g, off, cap, cur, rfl, hB, hg, hnc, hm, _⟩⟩ := h
  · omega
  · exact ⟨g, off, cap, rfl, hB, hnc, hm⟩
theorem ret_cell3 {P : Program} {fn : Func} {R : Ending → World → Prop} {a : Act} {w : World} (p u t : Tmp) (ty : TypeId) (h : fn.results = #[.cell p ty, .tmp u, .tmp t]) (b : Nat) (cs : List Value) (d : TypeDesc)
    (hp : a.tmps.getD p undef = .pointer (some ⟨b, 0, none⟩)) (hc : w.rangeAt b 0 cs) (hu : P.underlying ty = some d) (hd : d.isRow = true) (hi : (P.info? ty).map (·.size) = some cs.length)
    (hdf : a.defers = []) (hR : R (.returned (.tuple #[.agg cs.toArray, a.tmps.getD u undef, a.tmps.getD t undef])) w) : bodyPost P fn R .ret a w := by
  refine bodyPost_ret (v := .tuple #[.agg cs.toArray, a.tmps.getD u undef, a.tmps.getD t undef]) ?_ hdf hR
  simp only [results, h]
  have := run_loadVar_mid (P := P) w b 0 ty cs d hc hu hd hi
  simp only [Array.getD_eq_getD_getElem?] at hp
  simp [Result.andThen, hp, asAddr, this]
def hdCells (x0 x1 x2 x3 : Nat) (f : Bool) : List Value := [.int .i64 x0, .int .i64 x1, .int .i64 x2, .int .i64 x3, .bool f]
theorem hd_one (x0 x1 x2 x3 : Nat) (f : Bool) : ∀ u ∈ hdCells x0 x1 x2 x3 f, u.oneCell' = true := by
  intro u hu
  simp [hdCells] at hu
  rcases hu with rfl | rfl | rfl | rfl | rfl <;> rfl
theorem hd_oneI (a b c d : Int) (f : Bool) : ∀ u ∈ [Value.int .i64 a, .int .i64 b, .int .i64 c, .int .i64 d, .bool f], u.oneCell' = true := by
  intro u hu
  simp at hu
  rcases hu with rfl | rfl | rfl | rfl | rfl <;> rfl
/-- What parse hands back. -/
def RetParse (w : World) (l : List UInt8) (e : Ending) (w' : World) : Prop :=
  Below w.heap.size w w' ∧ match parseL l with
  | none => ∃ x0 x1 x2 x3 f, e = .returned (.tuple #[.agg (hdCells x0 x1 x2 x3 f).toArray, .slice none 0 0, .bool false])
  | some (h, m) => ∃ u, e = .returned (.tuple #[.agg (hdCells h.life h.peer h.num h.ack h.has).toArray, u, .bool true]) ∧ OwnB w' w.heap.size u m
theorem RetParse.no {w w' : World} {l : List UInt8} {x0 x1 x2 x3 : Nat} {f : Bool} (h : parseL l = none) (hb : Below w.heap.size w w') : RetParse w l (.returned (.tuple #[.agg (hdCells x0 x1 x2 x3 f).toArray, .slice none 0 0, .bool false])) w' := by
  refine ⟨hb, ?_⟩
  rw [h]
  exact ⟨x0, x1, x2, x3, f, rfl⟩
set_option maxRecDepth 100000 in
set_option maxHeartbeats 8000000 in
theorem parse_any (w : World) (A : Option Addr) (n c : Nat) (l : List UInt8) (hr : Reads w w.heap.size 1 A n (bc l)) (hnc : n ≤ c) (hc : c ≤ maxLen) : Calls Try.prog 21 #[.slice A n c] w (RetParse w l) := by
  have hln : l.length = n := by have := hr.1; rw [bc_length] at this; omega
  obtain ⟨p, HP⟩ : ∃ p, Hid (nextL l = p) := ⟨_, Lib.hid rfl⟩
  have HN : Hid (∀ W, Below w.heap.size w W → Calls Try.prog 32 #[.slice A n c] W (RetNext W.heap.size W l)) := Lib.hid fun W hb => fnext_any A n c l W ((hr.below hb).more hb.size) hnc hc
  have hmx : n ≤ 9223372036854775807 := by unfold maxLen at hc; omega
  obtain ⟨b, fl, kd⟩ := p
  have HLN := Lib.hid hln
  clear hr hln
  go_enter Try.func21, Try.ntmps21
  go_upto_region 1 with fail
  have HW : Hid (Below w.heap.size w (w.alloc (.cells #[.int .i64 0, .int .i64 0, .int .i64 0, .int .i64 0, .bool false] 51)) ∧ (w.alloc (.cells #[.int .i64 0, .int .i64 0, .int .i64 0, .int .i64 0, .bool false] 51)).there w.heap.size 0 5 ∧ (w.alloc (.cells #[.int .i64 0, .int .i64 0, .int .i64 0, .int .i64 0, .bool false] 51)).rangeAt w.heap.size 0 (hdCells 0 0 0 0 false) ∧ w.heap.size < (w.alloc (.cells #[.int .i64 0, .int .i64 0, .int .i64 0, .int .i64 0, .bool false] 51)).heap.size) :=
    Lib.hid ⟨(Below.refl _ _).alloc (Nat.le_refl _) _, there_new w [.int .i64 0, .int .i64 0, .int .i64 0, .int .i64 0, .bool false] _, range_new w (hdCells 0 0 0 0 false) _, by rw [alloc_size]; omega⟩
  generalize (w.alloc (.cells #[.int .i64 0, .int .i64 0, .int .i64 0, .int .i64 0, .bool false] 51)) = W1 at *
  have HN1 := Lib.hid (HN.out W1 HW.out.1)
  unfold RetNext at HN1
  rw [HP.out] at HN1
  simp only at HN1
  obtain ⟨bl, HBL⟩ : ∃ bl, Hid (b.length = bl) := ⟨_, Lib.hid rfl⟩
  simp only [HBL.out] at HN1
  go_upto_region 2 with (go_at_call 32; ((with_reducible refine HN1.out.mono ?_); rintro e w2 ⟨A2, c2, rfl, ho2, hbw2⟩))
  have HW2 : Hid (Below w.heap.size w w2 ∧ w2.there w.heap.size 0 5 ∧ w2.rangeAt w.heap.size 0 (hdCells 0 0 0 0 false) ∧ w.heap.size < w2.heap.size ∧ Row w2 (w.heap.size + 1) 5 (.slice A2 bl c2) bl (bc b)) := Lib.hid
    ⟨HW.out.1.trans (hbw2.mono HW.out.1.size), there_below HW.out.2.1 hbw2 HW.out.2.2.2, range_below_at HW.out.2.2.1 hbw2 HW.out.2.2.2, Nat.lt_of_lt_of_le HW.out.2.2.2 hbw2.size, (Row.of_own ho2).more HW.out.2.2.2⟩
  clear ho2 hbw2 HN1 HN HW
  have hways : ((kd : Int) != 1) = true ∨ (((kd : Int) != 1) = false ∧ (fl < n ∨ decide (fl < n) = false)) := by
    by_cases h1 : kd = 1
    · right
      refine ⟨by simp [h1], ?_⟩
      by_cases h2 : fl < n
      · left; exact h2
      · right; simp; omega
    · left; simp; omega
  have HBAD : Hid (kd ≠ 1 ∨ fl < n → parseL l = none) := Lib.hid (fun hh => by unfold parseL; rw [HP.out, HLN.out, if_pos hh])
  rcases hways with e1 | ⟨e1, e2⟩
  · have HB1 := Lib.hid (HBAD.out (.inl (fun e => by rw [e] at e1; simp at e1)))
    go_wp2_with (first
      | (refine wpList_load_mid rfl 51 _ rfl w.heap.size 0 rfl [.int .i64 0, .int .i64 0, .int .i64 0, .int .i64 0, .bool false] _ HW2.out.2.2.1 Try.underlying51 rfl (by kernel_rfl) ?_)
      | (refine wpList_store_mid rfl 51 _ _ rfl w.heap.size 0 [.int .i64 0, .int .i64 0, .int .i64 0, .int .i64 0, .bool false].toArray rfl rfl HW2.out.2.1 (by kernel_rfl) (all_oneCell_toArray (hd_oneI _ _ _ _ _)) ?_))
    refine ret_cell3 2 3 4 51 rfl w.heap.size [.int .i64 0, .int .i64 0, .int .i64 0, .int .i64 0, .bool false] _ rfl (World.rangeAt_setCells_same _ _ _ _ HW2.out.2.1) Try.underlying51 rfl (by kernel_rfl) rfl ?_
    exact RetParse.no HB1.out (Below.setCells _ (Nat.le_refl _) _ _ HW2.out.1)
  rcases e2 with e2 | e2
  · have HB1 := Lib.hid (HBAD.out (.inr (by omega)))
    go_wp2_with (first
      | (refine wpList_unguard rfl ?_)
      | (refine wpList_load_mid rfl 51 _ rfl w.heap.size 0 rfl [.int .i64 0, .int .i64 0, .int .i64 0, .int .i64 0, .bool false] _ HW2.out.2.2.1 Try.underlying51 rfl (by kernel_rfl) ?_)
      | (refine wpList_store_mid rfl 51 _ _ rfl w.heap.size 0 [.int .i64 0, .int .i64 0, .int .i64 0, .int .i64 0, .bool false].toArray rfl rfl HW2.out.2.1 (by kernel_rfl) (all_oneCell_toArray (hd_oneI _ _ _ _ _)) ?_))
    refine ret_cell3 2 3 4 51 rfl w.heap.size [.int .i64 0, .int .i64 0, .int .i64 0, .int .i64 0, .bool false] _ rfl (World.rangeAt_setCells_same _ _ _ _ HW2.out.2.1) Try.underlying51 rfl (by kernel_rfl) rfl ?_
    exact RetParse.no HB1.out (Below.setCells _ (Nat.le_refl _) _ _ HW2.out.1)
  have i0 : ∀ W : World, (Instr.index 73 (.agg #[.pointer (some ⟨w.heap.size, 0, none⟩), .pointer (some ⟨w.heap.size, 1, none⟩), .pointer (some ⟨w.heap.size, 2, none⟩), .pointer (some ⟨w.heap.size, 3, none⟩)]) (.int .i64 0)).run Try.prog W = .ok (.pointer (some ⟨w.heap.size, 0, none⟩)) W := fun _ => by kernel_rfl
  have i1 : ∀ W : World, (Instr.index 73 (.agg #[.pointer (some ⟨w.heap.size, 0, none⟩), .pointer (some ⟨w.heap.size, 1, none⟩), .pointer (some ⟨w.heap.size, 2, none⟩), .pointer (some ⟨w.heap.size, 3, none⟩)]) (.int .i64 1)).run Try.prog W = .ok (.pointer (some ⟨w.heap.size, 1, none⟩)) W := fun _ => by kernel_rfl
  have i2 : ∀ W : World, (Instr.index 73 (.agg #[.pointer (some ⟨w.heap.size, 0, none⟩), .pointer (some ⟨w.heap.size, 1, none⟩), .pointer (some ⟨w.heap.size, 2, none⟩), .pointer (some ⟨w.heap.size, 3, none⟩)]) (.int .i64 2)).run Try.prog W = .ok (.pointer (some ⟨w.heap.size, 2, none⟩)) W := fun _ => by kernel_rfl
  have i3 : ∀ W : World, (Instr.index 73 (.agg #[.pointer (some ⟨w.heap.size, 0, none⟩), .pointer (some ⟨w.heap.size, 1, none⟩), .pointer (some ⟨w.heap.size, 2, none⟩), .pointer (some ⟨w.heap.size, 3, none⟩)]) (.int .i64 3)).run Try.prog W = .ok (.pointer (some ⟨w.heap.size, 3, none⟩)) W := fun _ => by kernel_rfl
  have HPAR : Hid (parseL l = match numsL 4 b with | none => none | some (xs, r) => hdL xs r) := Lib.hid (by
    unfold parseL
    have k1 : (kd : Int) = 1 := by simpa using e1
    have k2 : ¬ fl < n := of_decide_eq_false e2
    rw [HP.out, HLN.out, if_neg (by simp only; omega)]
    simp only
    cases numsL 4 b <;> rfl)
  clear HBAD
  go_wp2_with (refine wpList_unguard rfl ?_)
  go_loopw [5, 32] (fun bs k wr => ∃ (j x0 x1 x2 x3 : Nat) (r : List UInt8), j ≤ 4 ∧ k = .int .i64 j ∧ Hid (numsL 4 b = (numsL (4 - j) r).map fun p => ([x0, x1, x2, x3].take j ++ p.1, p.2)) ∧ Hid (Row wr (w.heap.size + 1) 5 bs r.length (bc r)) ∧ Hid (Below w.heap.size w wr) ∧ Hid (wr.there w.heap.size 0 5) ∧ Hid (wr.rangeAt w.heap.size 0 (hdCells x0 x1 x2 x3 false))) (fun _ k _ => 4 - (intOf k).toNat)
  case atStart =>
    refine ⟨0, 0, 0, 0, 0, b, Nat.zero_le _, rfl, Lib.hid ?_, Lib.hid (by rw [HBL.out]; exact HW2.out.2.2.2.2), Lib.hid HW2.out.1, Lib.hid HW2.out.2.1, Lib.hid HW2.out.2.2.1⟩
    cases numsL 4 b <;> simp
  case round =>
    obtain ⟨j, x0, x1, x2, x3, r, hj, rfl, HNU, HRW, HB, HTH, HRA⟩ := hrel
    obtain ⟨Ab, cb, rfl, hrc, hcm, hrr⟩ := HRW.out.form
    obtain ⟨rl, HRL⟩ : ∃ rl, Hid (r.length = rl) := ⟨_, Lib.hid rfl⟩
    have hrl : rl ≤ cb := by rw [← HRL.out]; exact hrc
    rw [HRL.out] at HRW hrr
    simp only [HRL.out]
    have hcb : cb ≤ 9223372036854775807 := by unfold maxLen at hcm; exact hcm
    by_cases hlt4 : j < 4
    · obtain ⟨vv, kk, HU⟩ : ∃ vv kk, Hid (unv r = (vv, kk)) := ⟨_, _, Lib.hid rfl⟩
      have HUN : Hid (Calls Try.prog 33 #[.slice Ab rl cb] wr fun e w' => e = .returned (.tuple #[.int .u64 vv, .int .i64 kk]) ∧ wr = w') := Lib.hid ((unvar_any Ab rl cb r wr hrr (Nat.le_trans hrl hcm)).mono fun e w' h => h.eq HU.out)
      have hkl : kk ≤ rl := by have := unv_lt r; rw [HU.out, HRL.out] at this; exact this
      have hvv : vv < 18446744073709551616 := by have := unv_val r; rw [HU.out] at this; exact this
      have hways : ((kk : Int) == 0) = true ∨ (((kk : Int) == 0) = false ∧ ((1099511627776 : Int) < (vv : Int) ∨ (decide ((1099511627776 : Int) < (vv : Int)) = false))) := by
        by_cases h1 : kk = 0
        · left; simp [h1]
        · right
          refine ⟨by simp; omega, ?_⟩
          by_cases h2 : 1099511627776 < vv
          · left; omega
          · right; simp; omega
      have HBADJ : Hid (numL r = none → parseL l = none) := Lib.hid (fun hh => by
        rw [HPAR.out, HNU.out]
        rcases hd : 4 - j with _ | q
        · omega
        · rw [numsL, hh]; rfl)
      have HGOOD : Hid (¬ kk = 0 → ¬ farN < vv → numL r = some (vv, r.drop kk)) := Lib.hid (fun h1 h2 => by unfold numL; rw [HU.out, if_neg (by simp only; omega)])
      have HNO : Hid (kk = 0 ∨ farN < vv → numL r = none) := Lib.hid (fun hh => by unfold numL; rw [HU.out, if_pos hh])
      clear hrr hrc
      rcases hways with e3 | ⟨e3, e4 | e4⟩
      · have HB1 := Lib.hid (HBADJ.out (HNO.out (.inl (by simpa using e3))))
        rcases j with _ | _ | _ | _ | j
        all_goals first | omega | skip
        all_goals
          go_wp2_with (first
            | (refine wpList_unguard rfl ?_)
            | (go_at_call 33; ((with_reducible refine HUN.out.mono ?_); rintro e w3 ⟨rfl, rfl⟩))
            | (refine wpList_load_mid rfl 51 _ rfl w.heap.size 0 rfl [.int .i64 x0, .int .i64 x1, .int .i64 x2, .int .i64 x3, .bool false] _ HRA.out Try.underlying51 rfl (by kernel_rfl) ?_)
            | (refine wpList_store_mid rfl 51 _ _ rfl w.heap.size 0 [.int .i64 x0, .int .i64 x1, .int .i64 x2, .int .i64 x3, .bool false].toArray rfl rfl HTH.out (by kernel_rfl) (all_oneCell_toArray (hd_oneI _ _ _ _ _)) ?_))
          refine ret_cell3 2 3 4 51 rfl w.heap.size [.int .i64 x0, .int .i64 x1, .int .i64 x2, .int .i64 x3, .bool false] _ rfl (World.rangeAt_setCells_same _ _ _ _ HTH.out) Try.underlying51 rfl (by kernel_rfl) rfl ?_
          exact RetParse.no HB1.out (Below.setCells _ (Nat.le_refl _) _ _ HB.out)
      · have HB1 := Lib.hid (HBADJ.out (HNO.out (.inr (by unfold farN; omega))))
        rcases j with _ | _ | _ | _ | j
        all_goals first | omega | skip
        all_goals
          go_wp2_with (first
            | (refine wpList_unguard rfl ?_)
            | (go_at_call 33; ((with_reducible refine HUN.out.mono ?_); rintro e w3 ⟨rfl, rfl⟩))
            | (refine wpList_load_mid rfl 51 _ rfl w.heap.size 0 rfl [.int .i64 x0, .int .i64 x1, .int .i64 x2, .int .i64 x3, .bool false] _ HRA.out Try.underlying51 rfl (by kernel_rfl) ?_)
            | (refine wpList_store_mid rfl 51 _ _ rfl w.heap.size 0 [.int .i64 x0, .int .i64 x1, .int .i64 x2, .int .i64 x3, .bool false].toArray rfl rfl HTH.out (by kernel_rfl) (all_oneCell_toArray (hd_oneI _ _ _ _ _)) ?_))
          refine ret_cell3 2 3 4 51 rfl w.heap.size [.int .i64 x0, .int .i64 x1, .int .i64 x2, .int .i64 x3, .bool false] _ rfl (World.rangeAt_setCells_same _ _ _ _ HTH.out) Try.underlying51 rfl (by kernel_rfl) rfl ?_
          exact RetParse.no HB1.out (Below.setCells _ (Nat.le_refl _) _ _ HB.out)
      · have hk0 : ¬ kk = 0 := fun e => by rw [e] at e3; simp at e3
        have hfar : vv ≤ 1099511627776 := by have := of_decide_eq_false e4; omega
        have HNL := Lib.hid (HGOOD.out hk0 (by unfold farN; omega))
        have HSTEP : Hid (numsL (4 - j) r = (numsL (4 - (j + 1)) (r.drop kk)).map fun p => (vv :: p.1, p.2)) := Lib.hid (by
          rw [show 4 - j = (4 - (j + 1)) + 1 by omega, numsL, HNL.out])
        obtain ⟨g, off, cb', hv, hgb, _, _⟩ := HRW.out.some_ (by omega)
        injection hv with q1 _ q3
        subst q1 q3
        have hw : IntKind.i64.wrap (vv : Int) = (vv : Int) := IntWalk.i64_in _ (by omega)
        have HNEW : Hid (∃ y0 y1 y2 y3, numsL 4 b = ((numsL (4 - (j + 1)) (r.drop kk)).map fun p => ([y0, y1, y2, y3].take (j + 1) ++ p.1, p.2)) ∧ hdCells y0 y1 y2 y3 false = (hdCells x0 x1 x2 x3 false).set j (.int .i64 vv)) := Lib.hid (by
          rw [HNU.out, HSTEP.out, Option.map_map]
          rcases j with _ | _ | _ | _ | j
          · exact ⟨vv, x1, x2, x3, rfl, rfl⟩
          · exact ⟨x0, vv, x2, x3, rfl, rfl⟩
          · exact ⟨x0, x1, vv, x3, rfl, rfl⟩
          · exact ⟨x0, x1, x2, vv, rfl, rfl⟩
          · omega)
        obtain ⟨y0, y1, y2, y3, hny, hcy⟩ := HNEW.out
        have HFIN : Hid (numsL 4 b = ((numsL (4 - (j + 1)) (r.drop kk)).map fun p => ([y0, y1, y2, y3].take (j + 1) ++ p.1, p.2)) ∧ Below w.heap.size w (wr.setCell ⟨w.heap.size, j, none⟩ (.int .i64 vv)) ∧ (wr.setCell ⟨w.heap.size, j, none⟩ (.int .i64 vv)).there w.heap.size 0 5 ∧ (wr.setCell ⟨w.heap.size, j, none⟩ (.int .i64 vv)).rangeAt w.heap.size 0 (hdCells y0 y1 y2 y3 false)) := Lib.hid
          ⟨hny, HB.out.setCell (p := ⟨w.heap.size, j, none⟩) (Nat.le_refl _) _, there_setCell HTH.out _ _ _, by rw [hcy]; have := range_setCell HRA.out j (.int .i64 vv); rwa [Nat.zero_add] at this⟩
        have HCUT := Lib.hid (HRW.out.cut (k := kk) hkl)
        have hdl : (r.drop kk).length = rl - kk := by rw [List.length_drop, HRL.out]
        have HDL := Lib.hid hdl
        have hbd : bc (r.drop kk) = (bc r).drop kk := by simp [bc, Lib.byteCells, List.map_drop]
        have HBD := Lib.hid hbd
        have hck : cb = kk ∨ ¬ cb = kk := Decidable.em _
        have hky : ∃ z, wr.cell? ⟨w.heap.size, j, none⟩ = some (.int .i64 z) := by
          have hz : ∃ z : Nat, (hdCells x0 x1 x2 x3 false)[j]? = some (.int .i64 z) := by
            rcases j with _ | _ | _ | _ | j
            · exact ⟨x0, rfl⟩
            · exact ⟨x1, rfl⟩
            · exact ⟨x2, rfl⟩
            · exact ⟨x3, rfl⟩
            · omega
          obtain ⟨z, hz⟩ := hz
          exact ⟨z, by have := HRA.out j _ hz; rwa [Nat.zero_add] at this⟩
        obtain ⟨zj, hzj⟩ := hky
        have hfj : wr.frozen? ⟨w.heap.size, j, none⟩ = false := by have := (HTH.out j (by omega)).2; rwa [Nat.zero_add] at this
        clear hny hcy HNEW hdl hbd HSTEP HGOOD HNO HBADJ
        rcases hck with hck | hck
        · -- [[K
          subst hck
          obtain rfl : rl = cb := by omega
          rw [if_pos rfl] at HCUT
          simp only [Nat.sub_self] at HCUT
          have H5 : Hid (Row (wr.setCell ⟨w.heap.size, j, none⟩ (.int .i64 vv)).drew (w.heap.size + 1) 5 (.slice (some ⟨g, off, none⟩) 0 0) (r.drop rl).length (bc (r.drop rl))) := Lib.hid (by
            rw [HDL.out, HBD.out, Nat.sub_self]
            exact HCUT.out.setCell_other (by intro e; injection e with e; simp only at e; omega) _)
          rcases j with _ | _ | _ | _ | j
          all_goals first | omega | skip
          all_goals
            go_upto_region 10 with (first
              | (refine wpList_unguard rfl ?_)
              | (go_at_call 33; ((with_reducible refine HUN.out.mono ?_); rintro e w3 ⟨rfl, rfl⟩)))
            go_region
          all_goals
            go_wp2
            go_roundw
            case rel =>
              obtain ⟨h1, h2, h3, h4⟩ := HFIN.out
              first
                | exact ⟨0 + 1, y0, y1, y2, y3, _, by omega, by go_num, Lib.hid h1, H5, Lib.hid h2.drew, Lib.hid h3, Lib.hid h4⟩
                | exact ⟨1 + 1, y0, y1, y2, y3, _, by omega, by go_num, Lib.hid h1, H5, Lib.hid h2.drew, Lib.hid h3, Lib.hid h4⟩
                | exact ⟨2 + 1, y0, y1, y2, y3, _, by omega, by go_num, Lib.hid h1, H5, Lib.hid h2.drew, Lib.hid h3, Lib.hid h4⟩
                | exact ⟨3 + 1, y0, y1, y2, y3, _, by omega, by go_num, Lib.hid h1, H5, Lib.hid h2.drew, Lib.hid h3, Lib.hid h4⟩
            case measure => simp [intOf]
          -- ]]K
        · rw [if_neg hck, Option.map_some, Addr.add_mid] at HCUT
          have H5 : Hid (Row (wr.setCell ⟨w.heap.size, j, none⟩ (.int .i64 vv)).drew (w.heap.size + 1) 5 (.slice (some ⟨g, off + kk, none⟩) (rl - kk) (cb - kk)) (r.drop kk).length (bc (r.drop kk))) := Lib.hid (by
            rw [HDL.out, HBD.out]
            exact HCUT.out.setCell_other (by intro e; injection e with e; simp only at e; omega) _)
          rcases j with _ | _ | _ | _ | j
          all_goals first | omega | skip
          all_goals
            go_upto_region 10 with (first
              | (refine wpList_unguard rfl ?_)
              | (go_at_call 33; ((with_reducible refine HUN.out.mono ?_); rintro e w3 ⟨rfl, rfl⟩)))
            go_region
          all_goals
            go_wp2
            go_roundw
            case rel =>
              obtain ⟨h1, h2, h3, h4⟩ := HFIN.out
              first
                | exact ⟨0 + 1, y0, y1, y2, y3, _, by omega, by go_num, Lib.hid h1, H5, Lib.hid h2.drew, Lib.hid h3, Lib.hid h4⟩
                | exact ⟨1 + 1, y0, y1, y2, y3, _, by omega, by go_num, Lib.hid h1, H5, Lib.hid h2.drew, Lib.hid h3, Lib.hid h4⟩
                | exact ⟨2 + 1, y0, y1, y2, y3, _, by omega, by go_num, Lib.hid h1, H5, Lib.hid h2.drew, Lib.hid h3, Lib.hid h4⟩
                | exact ⟨3 + 1, y0, y1, y2, y3, _, by omega, by go_num, Lib.hid h1, H5, Lib.hid h2.drew, Lib.hid h3, Lib.hid h4⟩
            case measure => simp [intOf]
    · obtain rfl : j = 4 := by omega
      have HEND : Hid (parseL l = hdL [x0, x1, x2, x3] r) := Lib.hid (by rw [HPAR.out, HNU.out]; rfl)
      have z0 : wr.cell? ⟨w.heap.size, 0, none⟩ = some (.int .i64 x0) := HRA.out 0 _ rfl
      clear HNU HPAR i0 i1 i2 i3
      by_cases hx0 : x0 < 1
      · have k0 : (x0 : Int) < 1 := by omega
        have HB1 : Hid (parseL l = none) := Lib.hid (by rw [HEND.out]; cases r <;> simp [hdL]; omega)
        go_wp2_with (first
          | (refine wpList_unguard rfl ?_)
          | (refine wpList_load_mid rfl 51 _ rfl w.heap.size 0 rfl [.int .i64 x0, .int .i64 x1, .int .i64 x2, .int .i64 x3, .bool false] _ HRA.out Try.underlying51 rfl (by kernel_rfl) ?_)
          | (refine wpList_store_mid rfl 51 _ _ rfl w.heap.size 0 [.int .i64 x0, .int .i64 x1, .int .i64 x2, .int .i64 x3, .bool false].toArray rfl rfl HTH.out (by kernel_rfl) (all_oneCell_toArray (hd_oneI _ _ _ _ _)) ?_))
        refine ret_cell3 2 3 4 51 rfl w.heap.size [.int .i64 x0, .int .i64 x1, .int .i64 x2, .int .i64 x3, .bool false] _ rfl (World.rangeAt_setCells_same _ _ _ _ HTH.out) Try.underlying51 rfl (by kernel_rfl) rfl ?_
        exact RetParse.no HB1.out (Below.setCells _ (Nat.le_refl _) _ _ HB.out)
      have k0 : decide ((x0 : Int) < 1) = false := by simp; omega
      by_cases hr0 : rl = 0
      · have k1 : ((rl : Int) == 0) = true := by simp [hr0]
        have HB1 : Hid (parseL l = none) := Lib.hid (by
          have : r = [] := List.eq_nil_of_length_eq_zero (by rw [HRL.out, hr0])
          rw [HEND.out, this]; rfl)
        go_wp2_with (first
          | (refine wpList_unguard rfl ?_)
          | (refine wpList_load_mid rfl 51 _ rfl w.heap.size 0 rfl [.int .i64 x0, .int .i64 x1, .int .i64 x2, .int .i64 x3, .bool false] _ HRA.out Try.underlying51 rfl (by kernel_rfl) ?_)
          | (refine wpList_store_mid rfl 51 _ _ rfl w.heap.size 0 [.int .i64 x0, .int .i64 x1, .int .i64 x2, .int .i64 x3, .bool false].toArray rfl rfl HTH.out (by kernel_rfl) (all_oneCell_toArray (hd_oneI _ _ _ _ _)) ?_))
        refine ret_cell3 2 3 4 51 rfl w.heap.size [.int .i64 x0, .int .i64 x1, .int .i64 x2, .int .i64 x3, .bool false] _ rfl (World.rangeAt_setCells_same _ _ _ _ HTH.out) Try.underlying51 rfl (by kernel_rfl) rfl ?_
        exact RetParse.no HB1.out (Below.setCells _ (Nat.le_refl _) _ _ HB.out)
      have k1 : ((rl : Int) == 0) = false := by simp; omega
      obtain ⟨g, off, cb', hv, hgb, _, _⟩ := HRW.out.some_ (by omega)
      injection hv with q1 _ q3
      subst q1 q3
      obtain ⟨y, m, hym⟩ : ∃ y m, r = y :: m := by
        cases r with
        | nil => have := HRL.out; simp at this; omega
        | cons y m => exact ⟨y, m, rfl⟩
      have HYM := Lib.hid hym
      obtain ⟨yn, HYN⟩ : ∃ yn, Hid (y.toNat = yn) := ⟨_, Lib.hid rfl⟩
      have HRR : Hid (rl = m.length + 1) := Lib.hid (by rw [← HRL.out, hym]; rfl)
      have hr1 : 1 ≤ rl := by omega
      have zb : wr.cell? ⟨g, off, none⟩ = some (.int .u8 (yn : Int)) := by
        obtain ⟨_, _, e, _, _, hrd⟩ := HRW.out.form
        injection e with e1 e2 e3
        subst e1 e3
        obtain ⟨ad, u, e, _, hu, hcell⟩ := hrd.at_ (k := 0) (by omega)
        injection e with e
        subst e
        rw [hym] at hu
        injection hu with hu
        rw [← HYN.out]
        rw [← hu] at hcell
        exact hcell
      clear hym
      by_cases hy1 : 1 < yn
      · have k2 : (1 : Int) < (yn : Int) := by omega
        have HB1 : Hid (parseL l = none) := Lib.hid (by
          rw [HEND.out, HYM.out, hdL, if_pos (.inr (.inl (by rw [HYN.out]; exact hy1)))])
        go_wp2_with (first
          | (refine wpList_unguard rfl ?_)
          | (refine wpList_load_mid rfl 51 _ rfl w.heap.size 0 rfl [.int .i64 x0, .int .i64 x1, .int .i64 x2, .int .i64 x3, .bool false] _ HRA.out Try.underlying51 rfl (by kernel_rfl) ?_)
          | (refine wpList_store_mid rfl 51 _ _ rfl w.heap.size 0 [.int .i64 x0, .int .i64 x1, .int .i64 x2, .int .i64 x3, .bool false].toArray rfl rfl HTH.out (by kernel_rfl) (all_oneCell_toArray (hd_oneI _ _ _ _ _)) ?_))
        refine ret_cell3 2 3 4 51 rfl w.heap.size [.int .i64 x0, .int .i64 x1, .int .i64 x2, .int .i64 x3, .bool false] _ rfl (World.rangeAt_setCells_same _ _ _ _ HTH.out) Try.underlying51 rfl (by kernel_rfl) rfl ?_
        exact RetParse.no HB1.out (Below.setCells _ (Nat.le_refl _) _ _ HB.out)
      have k2 : decide ((1 : Int) < (yn : Int)) = false := by simp; omega
      have z4 : wr.cell? ⟨w.heap.size, 4, none⟩ = some (.bool false) := HRA.out 4 _ rfl
      have f4 : wr.frozen? ⟨w.heap.size, 4, none⟩ = false := (HTH.out 4 (by omega)).2
      have hd : (yn = 0 ∧ 1 < rl) ∨ ∃ f, (yn == 1) = f ∧ ((f = false ∧ yn = 0 ∧ rl = 1) ∨ (f = true ∧ yn = 1)) := by
        by_cases h1 : yn = 1
        · right; exact ⟨true, by simp [h1], .inr ⟨rfl, h1⟩⟩
        · by_cases h2 : 1 < rl
          · left; omega
          · right; exact ⟨false, by simp [h1], .inl ⟨rfl, by omega, by omega⟩⟩
      rcases hd with ⟨hy0, hd2⟩ | ⟨f, hyf, hff⟩
      · have k4 : (1 : Int) < (rl : Int) := by omega
        have k5 : ((yn : Int) == 0) = true := by simp [hy0]
        have HB1 : Hid (parseL l = none) := Lib.hid (by
          rw [HEND.out, HYM.out, hdL, if_pos (.inr (.inr ⟨HYN.out.trans hy0, fun e => by have hml := HRR.out; rw [e] at hml; simp at hml; omega⟩))])
        go_wp2_with (first
          | (refine wpList_unguard rfl ?_)
          | (refine wpList_load_mid rfl 51 _ rfl w.heap.size 0 rfl [.int .i64 x0, .int .i64 x1, .int .i64 x2, .int .i64 x3, .bool false] _ HRA.out Try.underlying51 rfl (by kernel_rfl) ?_)
          | (refine wpList_store_mid rfl 51 _ _ rfl w.heap.size 0 [.int .i64 x0, .int .i64 x1, .int .i64 x2, .int .i64 x3, .bool false].toArray rfl rfl HTH.out (by kernel_rfl) (all_oneCell_toArray (hd_oneI _ _ _ _ _)) ?_))
        refine ret_cell3 2 3 4 51 rfl w.heap.size [.int .i64 x0, .int .i64 x1, .int .i64 x2, .int .i64 x3, .bool false] _ rfl (World.rangeAt_setCells_same _ _ _ _ HTH.out) Try.underlying51 rfl (by kernel_rfl) rfl ?_
        exact RetParse.no HB1.out (Below.setCells _ (Nat.le_refl _) _ _ HB.out)
      have HPOK : Hid (parseL l = some (⟨x0, x1, x2, x3, f⟩, m)) := Lib.hid (by
        rw [HEND.out, HYM.out, hdL, if_neg (by
          rw [HYN.out]
          intro hh
          rcases hh with hh | hh | ⟨h1, h2⟩
          · simp at hh; omega
          · omega
          · rcases hff with ⟨_, _, h3⟩ | ⟨_, h3⟩
            · exact h2 (List.eq_nil_of_length_eq_zero (by have := HRR.out; omega))
            · omega)]
        rw [HYN.out, hyf]
        rfl)
      have HW5 : Hid (Below w.heap.size w (wr.setCell ⟨w.heap.size, 4, none⟩ (.bool f)) ∧ (wr.setCell ⟨w.heap.size, 4, none⟩ (.bool f)).there w.heap.size 0 5 ∧ (wr.setCell ⟨w.heap.size, 4, none⟩ (.bool f)).rangeAt w.heap.size 0 (hdCells x0 x1 x2 x3 f) ∧ Row (wr.setCell ⟨w.heap.size, 4, none⟩ (.bool f)) (w.heap.size + 1) 5 (.slice (some ⟨g, off, none⟩) rl cb) rl (bc r)) := Lib.hid
        ⟨HB.out.setCell (p := ⟨w.heap.size, 4, none⟩) (Nat.le_refl _) _, there_setCell HTH.out _ _ _, by have := range_setCell HRA.out 4 (.bool f); rw [Nat.zero_add] at this; exact this, HRW.out.setCell_other (by intro e; injection e with e; simp only at e; omega) _⟩
      have HCUT := Lib.hid (HW5.out.2.2.2.cut (k := 1) (by omega))
      have HBM : Hid ((bc r).drop 1 = bc m) := Lib.hid (by rw [HYM.out]; rfl)
      have HRM : Hid (rl - 1 = m.length) := Lib.hid (by have := HRR.out; omega)
      rw [HBM.out] at HCUT
      have hyw : (((yn : Int) == 0) = true ∧ decide ((1 : Int) < (rl : Int)) = false ∧ ((yn : Int) == 1) = false ∧ f = false) ∨ (((yn : Int) == 0) = false ∧ ((yn : Int) == 1) = true ∧ f = true) := by
        rcases hff with ⟨h1, h2, h3⟩ | ⟨h1, h2⟩
        · left; exact ⟨by simp [h2], by simp; omega, by simp [h2], h1⟩
        · right; exact ⟨by simp [h2], by simp [h2], h1⟩
      have hcw : cb = 1 ∨ ¬ cb = 1 := Decidable.em _
      have hw5a : w.heap.size < wr.heap.size := by have := World.block_lt_of_cell? wr ⟨w.heap.size, 0, none⟩ z0; exact this
      clear HEND
      rcases hyw with ⟨k5, k6, k7, rfl⟩ | ⟨k5, k7, rfl⟩
      · -- [[A
        go_upto_region 15 with (refine wpList_unguard rfl ?_)
        have HB5 := Lib.hid HW5.out.1
        have HT5 := Lib.hid HW5.out.2.1
        have HC5 := Lib.hid HW5.out.2.2.1
        have HRM' := HRM.out
        rw [HRM'] at HCUT
        clear HW5 z0 z4 f4 HRM' hw5a
        generalize (wr.setCell ⟨w.heap.size, 4, none⟩ (.bool false)) = W5 at *
        have y0 : W5.cell? ⟨w.heap.size, 0, none⟩ = some (.int .i64 x0) := HC5.out 0 _ rfl
        have g0 : W5.frozen? ⟨w.heap.size, 0, none⟩ = false := (HT5.out 0 (by omega)).2
        have y1 : W5.cell? ⟨w.heap.size, 1, none⟩ = some (.int .i64 x1) := HC5.out 1 _ rfl
        have g1 : W5.frozen? ⟨w.heap.size, 1, none⟩ = false := (HT5.out 1 (by omega)).2
        have y2 : W5.cell? ⟨w.heap.size, 2, none⟩ = some (.int .i64 x2) := HC5.out 2 _ rfl
        have g2 : W5.frozen? ⟨w.heap.size, 2, none⟩ = false := (HT5.out 2 (by omega)).2
        have y3 : W5.cell? ⟨w.heap.size, 3, none⟩ = some (.int .i64 x3) := HC5.out 3 _ rfl
        have g3 : W5.frozen? ⟨w.heap.size, 3, none⟩ = false := (HT5.out 3 (by omega)).2
        have y4 : W5.cell? ⟨w.heap.size, 4, none⟩ = some (.bool false) := HC5.out 4 _ rfl
        have g4 : W5.frozen? ⟨w.heap.size, 4, none⟩ = false := (HT5.out 4 (by omega)).2
        rcases hcw with hcw | hcw
        · subst hcw
          obtain rfl : rl = 1 := by omega
          have RM : m.length = 0 := by have := HRM.out; omega
          rw [if_pos rfl] at HCUT
          refine wp_region_any (by kernel_rfl) ?_
          change wpAny _ _ _ _ _ _ _ W5.drew
          refine wpAny_take (i := 1) (v := ?v1a) rfl (by kernel_rfl) (by kernel_rfl) (by kernel_rfl) (fun _ _ _ h => h) (Or.inl ⟨by rfl, ?hy1a⟩) ?rest1a
          case hy1a => intro w'; go_simp; (try with_reducible rfl)
          refine wpAny_take (i := 2) (v := ?v2a) rfl (by kernel_rfl) (by kernel_rfl) (by kernel_rfl) (fun _ _ _ h => h) (Or.inl ⟨by rfl, ?hy2a⟩) ?rest2a
          case hy2a => intro w'; go_simp; (try with_reducible rfl)
          simp only [Act.put, List.setIfInBounds_toArray, List.set_cons_zero, List.set_cons_succ]
          refine wpAny_ready (rs := [0]) (by kernel_rfl) (by simp) ?_
          refine AllReady.cons rfl (fun K hK => ?_) AllReady.nil
          rw [if_pos (by rfl)]
          refine wp_load_mid 51 _ rfl w.heap.size 0 rfl [.int .i64 x0, .int .i64 x1, .int .i64 x2, .int .i64 x3, .bool false] _ HC5.out Try.underlying51 rfl (by kernel_rfl) ?_
          refine hK _ _ ?_
          clear hK K
          refine wpAny_ready (rs := [3]) (by kernel_rfl) (by simp) ?_
          refine AllReady.cons rfl (fun K hK => ?_) AllReady.nil
          rw [if_pos (by rfl)]
          refine wp_store_mid 51 _ _ rfl w.heap.size 0 [.int .i64 x0, .int .i64 x1, .int .i64 x2, .int .i64 x3, .bool false].toArray rfl rfl HT5.out (by kernel_rfl) (all_oneCell_toArray (hd_oneI _ _ _ _ _)) ?_
          refine hK _ _ ?_
          clear hK K
          simp only [Act.put, List.setIfInBounds_toArray, List.set_cons_zero, List.set_cons_succ]
          refine wpAny_take (i := 4) (v := ?v4a) rfl (by kernel_rfl) (by kernel_rfl) (by kernel_rfl) (fun _ _ _ h => h) (Or.inl ⟨by rfl, ?hy4a⟩) ?rest4a
          case hy4a => intro w'; go_simp; (try with_reducible rfl)
          refine wpAny_take (i := 5) (v := ?v5a) rfl (by kernel_rfl) (by kernel_rfl) (by kernel_rfl) (fun _ _ _ h => h) (Or.inl ⟨by rfl, ?hy5a⟩) ?rest5a
          case hy5a => intro w'; go_simp; (try with_reducible rfl)
          refine wpAny_done (by kernel_rfl) ?_ _
          simp only [Act.put, List.setIfInBounds_toArray, List.set_cons_zero, List.set_cons_succ]
          go_wp2
          refine ret_cell3 2 3 4 51 rfl w.heap.size [.int .i64 x0, .int .i64 x1, .int .i64 x2, .int .i64 x3, .bool false] _ rfl (World.rangeAt_setCells_same W5.drew w.heap.size 0 [.int .i64 x0, .int .i64 x1, .int .i64 x2, .int .i64 x3, .bool false] HT5.out) Try.underlying51 rfl (by kernel_rfl) rfl ?_
          have KS : Kept (fun k => k = w.heap.size) W5 (W5.drew.setCells w.heap.size 0 [.int .i64 x0, .int .i64 x1, .int .i64 x2, .int .i64 x3, .bool false]) := kept_setCells (S := fun k => k = w.heap.size) w.heap.size rfl _ _ (Kept.refl _ _).drew
          refine ⟨Below.setCells (a := w) w.heap.size (Nat.le_refl _) [.int .i64 x0, .int .i64 x1, .int .i64 x2, .int .i64 x3, .bool false] 0 HB5.out.drew, ?_⟩
          rw [HPOK.out]
          refine ⟨_, rfl, ?_⟩
          have R := HCUT.out.keep KS (fun q hq e => by injection hq with hq; simp only at hq; omega)
          have R2 := R.more (Nat.le_succ w.heap.size)
          rw [RM] at R2
          show Row _ _ _ _ m.length _
          rw [RM]
          exact R2
        · have RM : m.length = m.length := rfl
          rw [if_neg hcw, Option.map_some, Addr.add_mid] at HCUT
          have q1 : (1 : Int) ≤ (rl : Int) := by omega
          have q2 : 0 < rl := by omega
          refine wp_region_any (by kernel_rfl) ?_
          change wpAny _ _ _ _ _ _ _ W5.drew
          refine wpAny_take (i := 1) (v := ?v1b) rfl (by kernel_rfl) (by kernel_rfl) (by kernel_rfl) (fun _ _ _ h => h) (Or.inl ⟨by rfl, ?hy1b⟩) ?rest1b
          case hy1b => intro w'; go_simp; (try with_reducible rfl)
          refine wpAny_take (i := 2) (v := ?v2b) rfl (by kernel_rfl) (by kernel_rfl) (by kernel_rfl) (fun _ _ _ h => h) (Or.inl ⟨by rfl, ?hy2b⟩) ?rest2b
          case hy2b => intro w'; go_simp; (try with_reducible rfl)
          simp only [Act.put, List.setIfInBounds_toArray, List.set_cons_zero, List.set_cons_succ]
          refine wpAny_ready (rs := [0]) (by kernel_rfl) (by simp) ?_
          refine AllReady.cons rfl (fun K hK => ?_) AllReady.nil
          rw [if_pos (by rfl)]
          refine wp_load_mid 51 _ rfl w.heap.size 0 rfl [.int .i64 x0, .int .i64 x1, .int .i64 x2, .int .i64 x3, .bool false] _ HC5.out Try.underlying51 rfl (by kernel_rfl) ?_
          refine hK _ _ ?_
          clear hK K
          refine wpAny_ready (rs := [3]) (by kernel_rfl) (by simp) ?_
          refine AllReady.cons rfl (fun K hK => ?_) AllReady.nil
          rw [if_pos (by rfl)]
          refine wp_store_mid 51 _ _ rfl w.heap.size 0 [.int .i64 x0, .int .i64 x1, .int .i64 x2, .int .i64 x3, .bool false].toArray rfl rfl HT5.out (by kernel_rfl) (all_oneCell_toArray (hd_oneI _ _ _ _ _)) ?_
          refine hK _ _ ?_
          clear hK K
          simp only [Act.put, List.setIfInBounds_toArray, List.set_cons_zero, List.set_cons_succ]
          refine wpAny_take (i := 4) (v := ?v4b) rfl (by kernel_rfl) (by kernel_rfl) (by kernel_rfl) (fun _ _ _ h => h) (Or.inl ⟨by rfl, ?hy4b⟩) ?rest4b
          case hy4b => intro w'; go_simp; (try with_reducible rfl)
          refine wpAny_take (i := 5) (v := ?v5b) rfl (by kernel_rfl) (by kernel_rfl) (by kernel_rfl) (fun _ _ _ h => h) (Or.inl ⟨by rfl, ?hy5b⟩) ?rest5b
          case hy5b => intro w'; go_simp; (try with_reducible rfl)
          refine wpAny_done (by kernel_rfl) ?_ _
          simp only [Act.put, List.setIfInBounds_toArray, List.set_cons_zero, List.set_cons_succ]
          go_wp2
          refine ret_cell3 2 3 4 51 rfl w.heap.size [.int .i64 x0, .int .i64 x1, .int .i64 x2, .int .i64 x3, .bool false] _ rfl (World.rangeAt_setCells_same W5.drew w.heap.size 0 [.int .i64 x0, .int .i64 x1, .int .i64 x2, .int .i64 x3, .bool false] HT5.out) Try.underlying51 rfl (by kernel_rfl) rfl ?_
          have KS : Kept (fun k => k = w.heap.size) W5 (W5.drew.setCells w.heap.size 0 [.int .i64 x0, .int .i64 x1, .int .i64 x2, .int .i64 x3, .bool false]) := kept_setCells (S := fun k => k = w.heap.size) w.heap.size rfl _ _ (Kept.refl _ _).drew
          refine ⟨Below.setCells (a := w) w.heap.size (Nat.le_refl _) [.int .i64 x0, .int .i64 x1, .int .i64 x2, .int .i64 x3, .bool false] 0 HB5.out.drew, ?_⟩
          rw [HPOK.out]
          refine ⟨_, rfl, ?_⟩
          have R := HCUT.out.keep KS (fun q hq e => by injection hq with hq; simp only at hq; omega)
          show Row _ _ _ (.slice (some ⟨g, off + 1, none⟩) (rl - 1) (cb - 1)) m.length (bc m)
          rw [HRM.out]
          exact R.more (Nat.le_succ _)
        -- ]]A
      · -- [[B
        go_upto_region 15 with (refine wpList_unguard rfl ?_)
        have HB5 := Lib.hid HW5.out.1
        have HT5 := Lib.hid HW5.out.2.1
        have HC5 := Lib.hid HW5.out.2.2.1
        have HRM' := HRM.out
        rw [HRM'] at HCUT
        clear HW5 z0 z4 f4 HRM' hw5a
        generalize (wr.setCell ⟨w.heap.size, 4, none⟩ (.bool true)) = W5 at *
        have y0 : W5.cell? ⟨w.heap.size, 0, none⟩ = some (.int .i64 x0) := HC5.out 0 _ rfl
        have g0 : W5.frozen? ⟨w.heap.size, 0, none⟩ = false := (HT5.out 0 (by omega)).2
        have y1 : W5.cell? ⟨w.heap.size, 1, none⟩ = some (.int .i64 x1) := HC5.out 1 _ rfl
        have g1 : W5.frozen? ⟨w.heap.size, 1, none⟩ = false := (HT5.out 1 (by omega)).2
        have y2 : W5.cell? ⟨w.heap.size, 2, none⟩ = some (.int .i64 x2) := HC5.out 2 _ rfl
        have g2 : W5.frozen? ⟨w.heap.size, 2, none⟩ = false := (HT5.out 2 (by omega)).2
        have y3 : W5.cell? ⟨w.heap.size, 3, none⟩ = some (.int .i64 x3) := HC5.out 3 _ rfl
        have g3 : W5.frozen? ⟨w.heap.size, 3, none⟩ = false := (HT5.out 3 (by omega)).2
        have y4 : W5.cell? ⟨w.heap.size, 4, none⟩ = some (.bool true) := HC5.out 4 _ rfl
        have g4 : W5.frozen? ⟨w.heap.size, 4, none⟩ = false := (HT5.out 4 (by omega)).2
        rcases hcw with hcw | hcw
        · subst hcw
          obtain rfl : rl = 1 := by omega
          have RM : m.length = 0 := by have := HRM.out; omega
          rw [if_pos rfl] at HCUT
          refine wp_region_any (by kernel_rfl) ?_
          change wpAny _ _ _ _ _ _ _ W5.drew
          refine wpAny_take (i := 1) (v := ?v1c) rfl (by kernel_rfl) (by kernel_rfl) (by kernel_rfl) (fun _ _ _ h => h) (Or.inl ⟨by rfl, ?hy1c⟩) ?rest1c
          case hy1c => intro w'; go_simp; (try with_reducible rfl)
          refine wpAny_take (i := 2) (v := ?v2c) rfl (by kernel_rfl) (by kernel_rfl) (by kernel_rfl) (fun _ _ _ h => h) (Or.inl ⟨by rfl, ?hy2c⟩) ?rest2c
          case hy2c => intro w'; go_simp; (try with_reducible rfl)
          simp only [Act.put, List.setIfInBounds_toArray, List.set_cons_zero, List.set_cons_succ]
          refine wpAny_ready (rs := [0]) (by kernel_rfl) (by simp) ?_
          refine AllReady.cons rfl (fun K hK => ?_) AllReady.nil
          rw [if_pos (by rfl)]
          refine wp_load_mid 51 _ rfl w.heap.size 0 rfl [.int .i64 x0, .int .i64 x1, .int .i64 x2, .int .i64 x3, .bool true] _ HC5.out Try.underlying51 rfl (by kernel_rfl) ?_
          refine hK _ _ ?_
          clear hK K
          refine wpAny_ready (rs := [3]) (by kernel_rfl) (by simp) ?_
          refine AllReady.cons rfl (fun K hK => ?_) AllReady.nil
          rw [if_pos (by rfl)]
          refine wp_store_mid 51 _ _ rfl w.heap.size 0 [.int .i64 x0, .int .i64 x1, .int .i64 x2, .int .i64 x3, .bool true].toArray rfl rfl HT5.out (by kernel_rfl) (all_oneCell_toArray (hd_oneI _ _ _ _ _)) ?_
          refine hK _ _ ?_
          clear hK K
          simp only [Act.put, List.setIfInBounds_toArray, List.set_cons_zero, List.set_cons_succ]
          refine wpAny_take (i := 4) (v := ?v4c) rfl (by kernel_rfl) (by kernel_rfl) (by kernel_rfl) (fun _ _ _ h => h) (Or.inl ⟨by rfl, ?hy4c⟩) ?rest4c
          case hy4c => intro w'; go_simp; (try with_reducible rfl)
          refine wpAny_take (i := 5) (v := ?v5c) rfl (by kernel_rfl) (by kernel_rfl) (by kernel_rfl) (fun _ _ _ h => h) (Or.inl ⟨by rfl, ?hy5c⟩) ?rest5c
          case hy5c => intro w'; go_simp; (try with_reducible rfl)
          refine wpAny_done (by kernel_rfl) ?_ _
          simp only [Act.put, List.setIfInBounds_toArray, List.set_cons_zero, List.set_cons_succ]
          go_wp2
          refine ret_cell3 2 3 4 51 rfl w.heap.size [.int .i64 x0, .int .i64 x1, .int .i64 x2, .int .i64 x3, .bool true] _ rfl (World.rangeAt_setCells_same W5.drew w.heap.size 0 [.int .i64 x0, .int .i64 x1, .int .i64 x2, .int .i64 x3, .bool true] HT5.out) Try.underlying51 rfl (by kernel_rfl) rfl ?_
          have KS : Kept (fun k => k = w.heap.size) W5 (W5.drew.setCells w.heap.size 0 [.int .i64 x0, .int .i64 x1, .int .i64 x2, .int .i64 x3, .bool true]) := kept_setCells (S := fun k => k = w.heap.size) w.heap.size rfl _ _ (Kept.refl _ _).drew
          refine ⟨Below.setCells (a := w) w.heap.size (Nat.le_refl _) [.int .i64 x0, .int .i64 x1, .int .i64 x2, .int .i64 x3, .bool true] 0 HB5.out.drew, ?_⟩
          rw [HPOK.out]
          refine ⟨_, rfl, ?_⟩
          have R := HCUT.out.keep KS (fun q hq e => by injection hq with hq; simp only at hq; omega)
          have R2 := R.more (Nat.le_succ w.heap.size)
          rw [RM] at R2
          show Row _ _ _ _ m.length _
          rw [RM]
          exact R2
        · have RM : m.length = m.length := rfl
          rw [if_neg hcw, Option.map_some, Addr.add_mid] at HCUT
          have q1 : (1 : Int) ≤ (rl : Int) := by omega
          have q2 : 0 < rl := by omega
          refine wp_region_any (by kernel_rfl) ?_
          change wpAny _ _ _ _ _ _ _ W5.drew
          refine wpAny_take (i := 1) (v := ?v1d) rfl (by kernel_rfl) (by kernel_rfl) (by kernel_rfl) (fun _ _ _ h => h) (Or.inl ⟨by rfl, ?hy1d⟩) ?rest1d
          case hy1d => intro w'; go_simp; (try with_reducible rfl)
          refine wpAny_take (i := 2) (v := ?v2d) rfl (by kernel_rfl) (by kernel_rfl) (by kernel_rfl) (fun _ _ _ h => h) (Or.inl ⟨by rfl, ?hy2d⟩) ?rest2d
          case hy2d => intro w'; go_simp; (try with_reducible rfl)
          simp only [Act.put, List.setIfInBounds_toArray, List.set_cons_zero, List.set_cons_succ]
          refine wpAny_ready (rs := [0]) (by kernel_rfl) (by simp) ?_
          refine AllReady.cons rfl (fun K hK => ?_) AllReady.nil
          rw [if_pos (by rfl)]
          refine wp_load_mid 51 _ rfl w.heap.size 0 rfl [.int .i64 x0, .int .i64 x1, .int .i64 x2, .int .i64 x3, .bool true] _ HC5.out Try.underlying51 rfl (by kernel_rfl) ?_
          refine hK _ _ ?_
          clear hK K
          refine wpAny_ready (rs := [3]) (by kernel_rfl) (by simp) ?_
          refine AllReady.cons rfl (fun K hK => ?_) AllReady.nil
          rw [if_pos (by rfl)]
          refine wp_store_mid 51 _ _ rfl w.heap.size 0 [.int .i64 x0, .int .i64 x1, .int .i64 x2, .int .i64 x3, .bool true].toArray rfl rfl HT5.out (by kernel_rfl) (all_oneCell_toArray (hd_oneI _ _ _ _ _)) ?_
          refine hK _ _ ?_
          clear hK K
          simp only [Act.put, List.setIfInBounds_toArray, List.set_cons_zero, List.set_cons_succ]
          refine wpAny_take (i := 4) (v := ?v4d) rfl (by kernel_rfl) (by kernel_rfl) (by kernel_rfl) (fun _ _ _ h => h) (Or.inl ⟨by rfl, ?hy4d⟩) ?rest4d
          case hy4d => intro w'; go_simp; (try with_reducible rfl)
          refine wpAny_take (i := 5) (v := ?v5d) rfl (by kernel_rfl) (by kernel_rfl) (by kernel_rfl) (fun _ _ _ h => h) (Or.inl ⟨by rfl, ?hy5d⟩) ?rest5d
          case hy5d => intro w'; go_simp; (try with_reducible rfl)
          refine wpAny_done (by kernel_rfl) ?_ _
          simp only [Act.put, List.setIfInBounds_toArray, List.set_cons_zero, List.set_cons_succ]
          go_wp2
          refine ret_cell3 2 3 4 51 rfl w.heap.size [.int .i64 x0, .int .i64 x1, .int .i64 x2, .int .i64 x3, .bool true] _ rfl (World.rangeAt_setCells_same W5.drew w.heap.size 0 [.int .i64 x0, .int .i64 x1, .int .i64 x2, .int .i64 x3, .bool true] HT5.out) Try.underlying51 rfl (by kernel_rfl) rfl ?_
          have KS : Kept (fun k => k = w.heap.size) W5 (W5.drew.setCells w.heap.size 0 [.int .i64 x0, .int .i64 x1, .int .i64 x2, .int .i64 x3, .bool true]) := kept_setCells (S := fun k => k = w.heap.size) w.heap.size rfl _ _ (Kept.refl _ _).drew
          refine ⟨Below.setCells (a := w) w.heap.size (Nat.le_refl _) [.int .i64 x0, .int .i64 x1, .int .i64 x2, .int .i64 x3, .bool true] 0 HB5.out.drew, ?_⟩
          rw [HPOK.out]
          refine ⟨_, rfl, ?_⟩
          have R := HCUT.out.keep KS (fun q hq e => by injection hq with hq; simp only at hq; omega)
          show Row _ _ _ (.slice (some ⟨g, off + 1, none⟩) (rl - 1) (cb - 1)) m.length (bc m)
          rw [HRM.out]
          exact R.more (Nat.le_succ _)
        -- ]]B
end Go.Proofs.Ytchhejheobceiaa
