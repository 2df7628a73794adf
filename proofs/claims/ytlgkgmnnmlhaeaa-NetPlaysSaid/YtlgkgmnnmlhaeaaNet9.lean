import Derived.Test.YtlgkgmnnmlhaeaaNet8
namespace Go.Proofs.Ytlgkgmnnmlhaeaa
open Go.RowKit
set_option linter.unusedVariables false

/-- Behind a delivery: the packet in a variable of its own. -/
theorem got_one {B : Nat} {w w3 : World} {a q cq : Nat} {v : Value} {vs : List PkV} {ps ps' : List Pk} {f t : Int} {x : Nat} (hN : NetAt B w a v vs ps) (hB : B ≤ w.heap.size) (ho : w3.ownsRow w.heap.size 5 1 (.slice (some ⟨q, 0, none⟩) 1 cq) 1 [.int .u8 (x : Int)]) (hn : NetNow B w a v ps' w3) :
    (∃ v3 vs3, NetAt B (w3.alloc (.cells #[.int .i64 f, .int .i64 t, .slice (some ⟨q, 0, none⟩) 1 cq] 31)) a v3 vs3 ps') ∧ (w3.alloc (.cells #[.int .i64 f, .int .i64 t, .slice (some ⟨q, 0, none⟩) 1 cq] 31)).cell? ⟨w3.heap.size, 2, none⟩ = some (.slice (some ⟨q, 0, none⟩) 1 cq) ∧ (w3.alloc (.cells #[.int .i64 f, .int .i64 t, .slice (some ⟨q, 0, none⟩) 1 cq] 31)).cell? ⟨q, 0, none⟩ = some (.int .u8 (x : Int)) ∧ Below B w (w3.alloc (.cells #[.int .i64 f, .int .i64 t, .slice (some ⟨q, 0, none⟩) 1 cq] 31)) ∧ Kept (foot a v) w (w3.alloc (.cells #[.int .i64 f, .int .i64 t, .slice (some ⟨q, 0, none⟩) 1 cq] 31)) := by
  obtain ⟨v3, vs3, hn3, hk3, hg3⟩ := hn
  have hb : Below B w w3 := hk3.below hB (fun g hf => Or.elim hf (fun e => by rw [e]; exact hN.lo) (fun e => (hN.row.lt g e).1))
  refine ⟨⟨v3, vs3, hn3.grow ((Below.refl _ _).alloc (Nat.le_refl _) _)⟩, (range_new w3 [.int .i64 f, .int .i64 t, .slice (some ⟨q, 0, none⟩) 1 cq] 31) 2 _ rfl, (own_cell (ho.kept (World.grownBy_alloc w3 _ none) (own_or _)) (j := 0) rfl).1, hb.alloc (by have := hk3.size; omega) _, hk3.alloc _⟩

theorem erase_drop {α : Type} (l : List α) (i : Nat) : (l.drop i).eraseIdx 0 = l.drop (i + 1) := by
  rw [List.eraseIdx_zero, List.tail_drop]
set_option maxRecDepth 100000 in
set_option maxHeartbeats 8000000 in
theorem netRows_walk (w : World) (N : Int) (w0 : (Lit.int .i64 N).wf = true) (z : Int) (w1 : (Lit.int .i64 z).wf = true) :
    Calls Try.prog 4 #[.int .i64 N, .int .i64 z] w (RetTrue w) := by
  obtain ⟨hn0, hn1⟩ := wf_int' w0
  clear w0 w1
  have hbad : (N < 1) ∨ (¬ N < 1 ∧ 60 < N) ∨ (¬ N < 1 ∧ ¬ 60 < N) := by omega
  rcases hbad with g1 | ⟨g0, g1⟩ | ⟨g0, g1⟩
  · go_enter Try.func4, Try.ntmps4
    go_wp2_with (first
      | (refine wpList_unguard rfl ?_)
      | (go_at_call 8; refine (awake_any _).mono ?_; rintro e w' ⟨rfl, hb⟩))
    go_ret
    exact ⟨rfl, hb⟩
  · have g0d : decide (N < 1) = false := by simpa using g0
    go_enter Try.func4, Try.ntmps4
    go_wp2_with (first
      | (refine wpList_unguard rfl ?_)
      | (go_at_call 8; refine (awake_any _).mono ?_; rintro e w' ⟨rfl, hb⟩))
    go_ret
    exact ⟨rfl, hb⟩
  obtain ⟨K, rfl⟩ : ∃ K : Nat, N = (K : Int) := ⟨N.toNat, by omega⟩
  have hK : K ≤ 60 := by omega
  have hK1 : 1 ≤ K := by omega
  have g0d : decide ((K : Int) < 1) = false := by simp; omega
  have g1d : decide ((60 : Int) < (K : Int)) = false := by simp; omega
  clear g0 g1
  go_enter Try.func4, Try.ntmps4
  go_wp2_with (first
    | (refine wpList_unguard rfl ?_)
    | (go_at_call 13; refine (new_any _).mono ?_; rintro e wn ⟨rfl, rfl⟩))
  have HN0 := Lib.hid (net_new w)
  have HB0 : Hid (Below w.heap.size w (w.alloc (.cells #[.slice none 0 0] 27))) := Lib.hid ((Below.refl _ _).alloc (Nat.le_refl _) _)
  clear g0d g1d
  go_loopw [6] (fun s wr => ∃ (i : Nat) (v : Value) (vs : List PkV), i ≤ K ∧ s = .int .i64 i ∧ Hid (NetAt w.heap.size wr w.heap.size v vs ((List.range i).map (pk1 2 1))) ∧ Hid (Below w.heap.size w wr)) (fun s _ => K - (intOf s).toNat)
  case atStart => exact ⟨0, _, [], Nat.zero_le _, rfl, HN0, HB0⟩
  case round =>
    obtain ⟨i, v, vs, hi, rfl, HN, HB⟩ := hrel
    by_cases hlt : i < K
    · refine code_hide (fun Q0 HQ0 => ?_)
      have hw8 : IntKind.u8.wrap (i : Int) = (i : Int) := by
        exact IntWalk.u8_in _ (by omega)
      have hi200 : (i : Int) < 200 := by omega
      have HS := Lib.hid (send_j w.heap.size wr w.heap.size v vs _ HN.out HB.out.size (by simp; omega) 2 1 rfl rfl (by omega) i (by omega))
      go_wp2_with (go_at_call 9; refine HS.out.mono ?_; rintro e w2 ⟨rfl, v2, vs2, hn2, hk2, hg2⟩; have HN2 := Lib.hid hn2; have HK2 := Lib.hid hk2; clear hn2 hk2 hg2)
      refine hide_out HQ0 ?_
      go_step
      go_roundw
      case rel =>
        refine ⟨i + 1, v2, vs2, by omega, by go_num, Lib.hid ?_, Lib.hid ?_⟩
        · rw [List.range_succ, List.map_append]; exact HN2.out
        · exact HB.out.trans (HK2.out.below HB.out.size (fun k hf => Or.elim hf (fun e => by omega) (fun e => (HN.out.row.lt k e).1)))
      case measure => simp [intOf]; omega
    · obtain rfl : K = i := by omega
      have hLp : (0 : Int) < (K : Int) := by omega
      obtain ⟨k, hk, HKZ⟩ : ∃ k : Nat, k < K ∧ Hid (roundZ z K = (k : Int)) := ⟨(roundZ z K).toNat, by have := roundZ_bd z K hLp; omega, Lib.hid (by have := roundZ_bd z K hLp; omega)⟩
      have HRD : Hid (∀ W, Calls Try.prog 10 #[.int .i64 z, .int .i64 K] W fun e w' => e = .returned (.int .i64 (k : Int)) ∧ W = w') := Lib.hid fun W => by
        rw [← HKZ.out]; exact round_any z K W hLp (by omega)
      obtain ⟨all, HALL⟩ : ∃ all, Hid ((List.range K).map (pk1 2 1) ++ [pk1 2 1 k] = all) := ⟨_, Lib.hid rfl⟩
      have HTW : Hid (Calls Try.prog 14 #[.pointer (some ⟨w.heap.size, 0, none⟩), .int .i64 (k : Int)] wr fun e w' => e = .returned (.bool true) ∧ NetNow w.heap.size wr w.heap.size v all w') := Lib.hid (by
        have h1 := twice_some w.heap.size wr w.heap.size v vs _ HN.out (by simp; omega) HB.out.size k k rfl (pk1 2 1 k) (by rw [List.getElem?_map, List.getElem?_range hk]; rfl) (by simp [pk1])
        rw [send_pk rfl rfl (by omega) (by simp; omega), HALL.out, show mayL ((List.range K).map (pk1 2 1)).length (pk1 2 1 k) = true by simp [mayL, pk1, nodeL]; omega] at h1
        exact h1)
      have HAL : Hid (all.length = K + 1) := Lib.hid (by rw [← HALL.out]; simp)
      have HAG : Hid (∀ i, i ≤ K → all[i]? = some (pk1 2 1 (if i = K then k else i))) := Lib.hid fun i hi => by
        rw [← HALL.out]
        by_cases hik : i = K
        · subst hik; rw [if_pos rfl, List.getElem?_append_right (by simp)]; simp
        · rw [if_neg hik, List.getElem?_append_left (by simp; omega), List.getElem?_map, List.getElem?_range (by omega)]; rfl
      go_upto_region 11 with (first
        | (refine wpList_unguard rfl ?_)
        | (go_at_call 10; refine (HRD.out _).mono ?_; rintro e w' ⟨rfl, rfl⟩)
        | (go_at_call 14; ((with_reducible refine HTW.out.mono ?_); rintro e w2 ⟨rfl, v2, vs2, hn2, hk2, hg2⟩; have HN2 := Lib.hid hn2; have HK2 := Lib.hid hk2; clear hn2 hk2 hg2; obtain ⟨A2, c2, hv2, _⟩ := Owns.form (Or.inl HN2.out.row); have HLEN : Hid (Calls Try.prog 12 #[.pointer (some ⟨w.heap.size, 0, none⟩)] w2 fun e w' => e = .returned (.int .i64 ((K + 1 : Nat) : Int)) ∧ w2 = w') := Lib.hid (len_any w2 w.heap.size A2 (K + 1) c2 (by simp [maxLen]; omega) (by rw [cell_of_one HN2.out.cell, hv2, HAL.out])); clear hv2))
        | (go_at_call 12; ((with_reducible refine HLEN.out.mono ?_); rintro e w' ⟨rfl, rfl⟩)))
      have HB2 : Hid (Below w.heap.size w w2) := Lib.hid (HB.out.trans (HK2.out.below HB.out.size (fun q hf => Or.elim hf (fun e => by omega) (fun e => (HN.out.row.lt q e).1))))
      clear HN HB HK2 HTW HRD HKZ HLEN
      go_loopw [7] (fun s wr => ∃ (i : Nat) (v : Value) (vs : List PkV), i ≤ K + 1 ∧ s = .int .i64 i ∧ Hid (NetAt w.heap.size wr w.heap.size v vs (all.drop i)) ∧ Hid (Below w.heap.size w wr)) (fun s _ => K + 1 - (intOf s).toNat)
      case atStart => exact ⟨0, _, _, Nat.zero_le _, rfl, HN2, HB2⟩
      case round =>
        obtain ⟨i, v, vs, hi, rfl, HN, HB⟩ := hrel
        by_cases hlt : i ≤ K
        · refine code_hide (fun Q0 HQ0 => ?_)
          have HD := Lib.hid (deliver_j w.heap.size wr w.heap.size v vs _ HN.out HB.out.size (by rw [List.length_drop, HAL.out]; omega) 0 0 2 1 (if i = K then k else i) (by split <;> omega) rfl (by rw [List.getElem?_drop, Nat.add_zero]; exact HAG.out i hlt))
          obtain ⟨x, HX⟩ : ∃ x, Hid ((if i = K then k else i) = x) := ⟨_, Lib.hid rfl⟩
          rw [HX.out] at HD
          have hx60 : x ≤ 60 := by have := HX.out; split at this <;> omega
          have hw8 : IntKind.u8.wrap (i : Int) = (i : Int) := IntWalk.u8_in _ (by omega)
          have hw9 : IntKind.u8.wrap (k : Int) = (k : Int) := IntWalk.u8_in _ (by omega)
          go_upto_region 16 with (go_at_call 11; ((with_reducible refine HD.out.mono ?_); rintro e w3 ⟨q, cq, rfl, ho3, hm3, hc3, hn3⟩; have HG := Lib.hid (got_one (f := 2) (t := 1) HN.out HB.out.size ho3 hn3); clear ho3 hn3))
          generalize (w3.alloc (.cells #[.int .i64 2, .int .i64 1, .slice (some ⟨q, 0, none⟩) 1 cq] 31)) = W4 at *
          generalize w3.heap.size = b8 at *
          obtain ⟨⟨v4, vs4, hn4⟩, x2, xb, hb4, hk4⟩ := HG.out
          have HN4 := Lib.hid hn4
          have HB4 := Lib.hid hb4
          clear hn4 hb4 hk4 HG
          by_cases hik : i = K
          · have hikb : ((i : Int) == (K : Int)) = true := by simp; omega
            have hxk : (x : Int) = (k : Int) := by have := HX.out; rw [if_pos hik] at this; omega
            obtain rfl : x = k := by omega
            have HIK := Lib.hid hik
            clear hik hxk
            go_wp2_with (refine wpList_unguard rfl ?_)
            refine hide_out HQ0 ?_
            go_step
            go_roundw
            case rel => exact ⟨i + 1, v4, vs4, by omega, by go_num, Lib.hid (by have := HN4.out; rwa [erase_drop] at this), Lib.hid (HB.out.trans HB4.out)⟩
            case measure => simp [intOf]; omega
          · have hikb : ((i : Int) == (K : Int)) = false := by simp; omega
            obtain rfl : x = i := by have := HX.out; rw [if_neg hik] at this; omega
            have HIK := Lib.hid hik
            clear hik
            go_wp2_with (refine wpList_unguard rfl ?_)
            refine hide_out HQ0 ?_
            go_step
            go_roundw
            case rel => exact ⟨x + 1, v4, vs4, by omega, by go_num, Lib.hid (by have := HN4.out; rwa [erase_drop] at this), Lib.hid (HB.out.trans HB4.out)⟩
            case measure => simp [intOf]; omega
        · obtain rfl : i = K + 1 := by omega
          obtain ⟨A6, c6, hv6, _⟩ := Owns.form (Or.inl HN.out.row)
          have h0 : (all.drop (K + 1)).length = 0 := by rw [List.length_drop, HAL.out]; omega
          have HLN : Hid (Calls Try.prog 12 #[.pointer (some ⟨w.heap.size, 0, none⟩)] wr fun e w' => e = .returned (.int .i64 0) ∧ wr = w') := Lib.hid (len_any wr w.heap.size A6 0 c6 (Nat.zero_le _) (by rw [cell_of_one HN.out.cell, hv6, h0]))
          clear hv6 h0
          have hle : decide (((K + 1 : Nat) : Int) ≤ (K : Int)) = false := by simp; omega
          go_wp2_with (first
            | (refine wpList_unguard rfl ?_)
            | (go_at_call 12; ((with_reducible refine HLN.out.mono ?_); rintro e w' ⟨rfl, rfl⟩))
            | (go_at_call 8; refine (awake_any _).mono ?_; rintro e w' ⟨rfl, hb⟩))
          go_ret
          exact RetTrue.from HB.out ⟨rfl, hb⟩
end Go.Proofs.Ytlgkgmnnmlhaeaa
