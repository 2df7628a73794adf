/- The walk of SessionLimits. No condition. -/
import Derived.Test.YtchhejheobceiaaSes9
import Derived.OwnWalk
namespace Go.Proofs.Ytchhejheobceiaa
open Go.RowKit
set_option linter.unusedVariables false

theorem Try.infoU8 : (Try.prog.info? 5).map (fun i => (i.zero, i.size, i.bytes)) = some (some (.int .u8 0), 1, 1) := by kernel_rfl
theorem made_zero (S : Nat) : (madeCells (Value.int .u8 0).cells (S * 1)).toList = bc (List.replicate S 0) := by
  show (madeCells #[Value.int .u8 0] (S * 1)).toList = _
  rw [toList_madeCells_one]
  simp [bc, Lib.byteCells]

set_option maxRecDepth 100000 in
set_option maxHeartbeats 8000000 in
theorem limits_good (w : World) (N S L : Nat) (hN : N ≤ 210) (hS : S ≤ 65541) (hb : ¬ (5 < N ∧ 100 < S)) (hL1 : 1 ≤ L) (hL2 : L ≤ 1099511627776) :
    Calls Try.prog 5 #[.int .i64 N, .int .i64 S, .int .i64 L] w (RetTrue w) := by
  have b0 : decide ((N : Int) < 0) = false := by simp
  have b1 : decide ((210 : Int) < (N : Int)) = false := by simp; omega
  have b2 : decide ((S : Int) < 0) = false := by simp
  have b3 : decide ((65541 : Int) < (S : Int)) = false := by simp; omega
  have b4 : decide ((L : Int) < 1) = false := by simp; omega
  have b5 : decide ((1099511627776 : Int) < (L : Int)) = false := by simp; omega
  have hways : decide ((5 : Int) < (N : Int)) = false ∨ ((5 : Int) < (N : Int) ∧ decide ((100 : Int) < (S : Int)) = false) := by
    by_cases h : 5 < N
    · right; exact ⟨by omega, by simp; omega⟩
    · left; simp; omega
  obtain ⟨i0, hib, hz0, hz1, hz2⟩ := info_parts Try.infoU8
  have hbd : i0.bytes * S ≤ 281474976710656 := by rw [hz2]; omega
  clear hb
  go_enter Try.func5, Try.ntmps5
  go_upto_region 1 with fail
  go_cut [37] from 16 (fun s37 wx => s37 = .bool false ∧ wx = w)
  case first =>
    rcases hways with e1 | ⟨e1, e2⟩
    all_goals
      go_wp2_with (refine wpList_unguard rfl ?_)
      go_meet
      exact ⟨rfl, rfl⟩
  case rest =>
    obtain ⟨rfl, rfl⟩ := hcut
    clear hways
    go_wp2_with (first
      | (refine wpList_unguard rfl ?_)
      | (go_at_call 7; refine (new_yes _ L L rfl hL1 hL2).mono ?_; rintro e w1 ⟨rfl, ha1, hb1, hs1⟩; have HA1 := Lib.hid ha1; have HB1 := Lib.hid hb1; clear ha1 hb1)
      | (go_at_call 8; refine (send_nil _ none 0 0).mono ?_; rintro e w' ⟨rfl, rfl⟩)
      | (go_at_call 11; refine (waiting_nil _).mono ?_; rintro e w' ⟨rfl, rfl⟩)
      | (go_at_call 17; refine (tick_nil _).mono ?_; rintro e w' ⟨rfl, rfl⟩))
    clear hs1 b0 b1 b2 b3 b4 b5
    go_loopw [12] (fun s12 wr => ∃ (i : Nat) (v : Value) (vs : List Value) (s : Se), i ≤ N ∧ s12 = .int .i64 i ∧ Hid (SesAt wc.heap.size wr wc.heap.size v vs s) ∧ Hid s.Ok ∧ Hid (S ≤ 65536 → s.wait.length = min i 200) ∧ Hid (Below wc.heap.size wc wr)) (fun s12 _ => N - (intOf s12).toNat)
    case atStart => exact ⟨0, _, _, _, Nat.zero_le _, rfl, HA1, Lib.hid (newSe_ok hL1 hL2), Lib.hid (fun _ => rfl), HB1⟩
    case round =>
      obtain ⟨i, v, vs, s, hi, rfl, HS, HOK, HWL, HB⟩ := hrel
      have hbs := HB.out.size
      by_cases hlt : i < N
      · have HM : Hid (∀ W, Below wr.heap.size wr W → W.ownsRow wr.heap.size 5 1 (.slice (some ⟨wr.heap.size, 0, none⟩) S S) S (bc (List.replicate S 0)) → ∀ W', Kept (foot wc.heap.size v) W W' → Reads W' W.heap.size 1 (some ⟨wr.heap.size, 0, none⟩) S (bc (List.replicate S 0))) := Lib.hid (fun W hb ho W' hk => by
          refine own_reads_in (hk.own ho (fun g hg hf => ?_)) (fun g hg => (ho.lt g hg).2)
          have h1 := (ho.lt g hg).1
          rcases hf with e | e
          · have := HS.out.lt; omega
          · have := (HS.out.row.lt g e).2; omega)
        have hw3 : (65536 < S ∨ (S ≤ 65536 ∧ 200 ≤ i)) ∨ (S ≤ 65536 ∧ i < 200) := by omega
        rcases hw3 with hbig | ⟨hs6, hi2⟩
        · have hfull : 65536 < S ∨ s.wait.length = 200 := by
            rcases hbig with h | ⟨h1, h2⟩
            · exact .inl h
            · right; rw [HWL.out h1]; omega
          have hcond : (200 : Int) ≤ (i : Int) ∨ (decide ((200 : Int) ≤ (i : Int)) = false ∧ (65536 : Int) < (S : Int)) := by
            by_cases h : 200 ≤ i
            · left; omega
            · right; exact ⟨by simp; omega, by omega⟩
          have HSN : Hid (∀ W, Below wr.heap.size wr W → Calls Try.prog 8 #[.pointer (some ⟨wc.heap.size, 0, none⟩), .slice (some ⟨wr.heap.size, 0, none⟩) S S] W fun e w' => e = .returned (.tuple #[.slice none 0 0, .int .i64 2]) ∧ W = w') := Lib.hid fun W hb => send_no wc.heap.size W wc.heap.size v vs s (HS.out.grow hb) HOK.out _ S S (by omega) hfull
          clear hbig hfull
          rcases hcond with e1 | ⟨e1, e2⟩
          all_goals
            go_wp2_with (first
              | (refine wpList_unguard rfl ?_)
              | (at_make; refine wpList_make_full _ rfl (.tmp 92) (.tmp 92) _ rfl wr.heap.size 5 i0 (.int .u8 0) 1 Try.underlying30 hib hz0 hz1 _ _ _ _ S rfl rfl rfl rfl hbd (by simp [maxLen]; omega) (Nat.le_refl _) ?_; intro w3 ho3 hg3; have HG3 : Hid (Below wr.heap.size wr w3) := Lib.hid ⟨hg3.os, hg3.tape, hg3.output, hg3.size, fun k hk => hg3.block k hk (by simp)⟩; clear ho3 hg3)
              | (go_at_call 8; ((with_reducible refine (HSN.out _ HG3.out).mono ?_); rintro e w4 ⟨rfl, rfl⟩)))
            go_roundw
            case rel => exact ⟨i + 1, v, vs, s, by omega, by go_num, Lib.hid (HS.out.grow HG3.out), HOK, Lib.hid (fun h => by have := HWL.out h; omega), Lib.hid (HB.out.trans (HG3.out.mono hbs))⟩
            case measure => simp [intOf]; omega
        · have e1 : decide ((200 : Int) ≤ (i : Int)) = false := by simp; omega
          have e2 : decide ((65536 : Int) < (S : Int)) = false := by simp; omega
          have hwl : s.wait.length = i := by rw [HWL.out hs6]; omega
          have HSY : Hid (∀ W, Below wr.heap.size wr W → W.ownsRow wr.heap.size 5 1 (.slice (some ⟨wr.heap.size, 0, none⟩) S S) S (bc (List.replicate S 0)) → Calls Try.prog 8 #[.pointer (some ⟨wc.heap.size, 0, none⟩), .slice (some ⟨wr.heap.size, 0, none⟩) S S] W fun e w' => ∃ u, e = .returned (.tuple #[u, .int .i64 0]) ∧ RowsAt w' W.heap.size u [pktL (s.push (List.replicate S 0)) (s.first + s.wait.length) true (List.replicate S 0)] ∧ SesNow wc.heap.size W wc.heap.size v (s.push (List.replicate S 0)) w') := Lib.hid fun W hb ho =>
            send_yes wc.heap.size W wc.heap.size v vs s (HS.out.grow hb) HOK.out _ S S _ (Nat.le_trans hbs hb.size) (HM.out W hb ho) hs6 (by omega)
          have HPO : Hid ((s.push (List.replicate S 0)).Ok ∧ (s.push (List.replicate S 0)).wait.length = i + 1) := Lib.hid ⟨push_ok HOK.out (by simp; omega) (by omega), by simp [Se.push, hwl]⟩
          clear hwl
          go_wp2_with (first
            | (refine wpList_unguard rfl ?_)
            | (at_make; refine wpList_make_full _ rfl (.tmp 92) (.tmp 92) _ rfl wr.heap.size 5 i0 (.int .u8 0) 1 Try.underlying30 hib hz0 hz1 _ _ _ _ S rfl rfl rfl rfl hbd (by simp [maxLen]; omega) (Nat.le_refl _) ?_; intro w3 ho3 hg3; rw [made_zero] at ho3; have HO3 := Lib.hid ho3; have HG3 : Hid (Below wr.heap.size wr w3) := Lib.hid ⟨hg3.os, hg3.tape, hg3.output, hg3.size, fun k hk => hg3.block k hk (by simp)⟩; clear ho3 hg3)
            | (go_at_call 8; ((with_reducible refine (HSY.out _ HG3.out HO3.out).mono ?_); rintro e w4 ⟨q4, rfl, hr4, hn4⟩; obtain ⟨A4, c4, rfl⟩ := hr4.value; have HN4 := Lib.hid hn4; clear hr4 hn4)))
          go_roundw
          case rel =>
            obtain ⟨v5, vs5, h5, _, _⟩ := HN4.out
            exact ⟨i + 1, v5, vs5, _, by omega, by go_num, Lib.hid h5, Lib.hid HPO.out.1, Lib.hid (fun _ => by rw [HPO.out.2]; omega), Lib.hid ((HB.out.trans (HG3.out.mono hbs)).trans (sesnow_below (HS.out.grow HG3.out) HN4.out (Nat.le_refl _) (Nat.le_trans hbs HG3.out.size)))⟩
          case measure => simp [intOf]; omega
      · obtain rfl : N = i := by omega
        have hnn : ¬ N < N := by omega
        go_wp2_with (go_at_call 6; refine (awake_any _).mono ?_; rintro e w' ⟨rfl, hb⟩)
        go_ret
        exact RetTrue.from HB.out ⟨rfl, hb⟩
end Go.Proofs.Ytchhejheobceiaa
