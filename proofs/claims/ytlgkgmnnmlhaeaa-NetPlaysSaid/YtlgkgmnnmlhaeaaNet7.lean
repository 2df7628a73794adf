import Derived.Test.YtlgkgmnnmlhaeaaNet6
import Derived.Deep.LoopGhost
import Derived.Deep.CutRange
namespace Go.Proofs.Ytlgkgmnnmlhaeaa
open Go.RowKit
set_option linter.unusedVariables false

theorem Try.infoBool : (Try.prog.info? 4).map (fun i => (i.zero, i.size, i.bytes)) = some (some (.bool false), 1, 1) := by kernel_rfl
theorem wf_int' {n : Int} (h : (Lit.int .i64 n).wf = true) : -9223372036854775808 ≤ n ∧ n ≤ 9223372036854775807 := by
  simp [Lit.wf, IntKind.min, IntKind.max, IntKind.signed, IntKind.bits] at h
  omega
theorem made_false (x : Nat) (h : x < 100) : (madeCells (Value.bool false).cells (100 * 1)).toList[x]? = some (.bool false) := by
  have e : (madeCells (Value.bool false).cells (100 * 1)).toList = List.replicate 100 (.bool false) := by
    show (madeCells #[Value.bool false] (100 * 1)).toList = _
    rw [toList_madeCells_one]
  rw [e, List.getElem?_replicate, if_pos h]
theorem own_or (v : Value) : v.ownBlock = none ∨ v.ownBlock ≠ none := by cases v.ownBlock <;> simp
theorem erase_map {α β : Type} (f : α → β) (l : List α) (k : Nat) : (l.map f).eraseIdx k = (l.eraseIdx k).map f := by
  simp [List.eraseIdx_eq_take_drop_succ, List.map_append, List.map_take, List.map_drop]
def pk1 (f t : Int) (j : Nat) : Pk := ⟨f, t, [UInt8.ofNat j]⟩
theorem byte_nat {j : Nat} (h : j < 256) : ((UInt8.ofNat j).toNat : Int) = (j : Int) := by
  rw [UInt8.toNat_ofNat_of_lt' (by simpa using h)]
theorem send_pk {ps : List Pk} {f t : Int} {j : Nat} (hf : nodeL f = true) (ht : nodeL t = true) (hft : f ≠ t) (h : ps.length < 200) : sendL ps [pk1 f t j] = ps ++ [pk1 f t j] := by
  have : mayL ps.length (pk1 f t j) = true := by simp [mayL, pk1, hf, ht, hft, h]
  rw [sendL, if_pos this]; rfl

section
variable (B : Nat) (w : World) (a : Nat) (v : Value) (vs : List PkV) (ps : List Pk) (hN : NetAt B w a v vs ps) (hB : B ≤ w.heap.size)
include hN hB
theorem send_j (hps : ps.length < 200) (f t : Int) (hf : nodeL f = true) (ht : nodeL t = true) (hft : f ≠ t) (j : Nat) (hj : j < 256) :
    Calls Try.prog 9 #[.pointer (some ⟨a, 0, none⟩), .slice (some ⟨w.heap.size + 1, 0, none⟩) 1 1] ((w.alloc (.cells #[.int .u8 (j : Int)] 5)).alloc (.cells #[.int .i64 f, .int .i64 t, .slice (some ⟨w.heap.size, 0, none⟩) 1 1] 31)) fun e w' =>
      e = .returned (.int .i64 1) ∧ NetNow B w a v (ps ++ [pk1 f t j]) w' := by
  refine (send_one B w a v vs ps hN hB (by omega) f t (UInt8.ofNat j) (j : Int) (byte_nat hj).symm).mono ?_
  have hs := send_pk (ps := ps) (j := j) hf ht hft hps
  unfold pk1 at hs
  rintro e w' ⟨h1, h2⟩
  rw [hs] at h1 h2
  exact ⟨by rw [h1]; simp, h2⟩
def RetDelJ (B : Nat) (w : World) (a : Nat) (v : Value) (f t : Int) (j : Nat) (ps : List Pk) (e : Ending) (w' : World) : Prop :=
  ∃ q c, e = .returned (.tuple #[.agg #[.int .i64 f, .int .i64 t, .slice (some ⟨q, 0, none⟩) 1 c], .bool true]) ∧ w'.ownsRow w.heap.size 5 1 (.slice (some ⟨q, 0, none⟩) 1 c) 1 [.int .u8 (j : Int)] ∧ c ≤ maxLen ∧ 1 ≤ c ∧ NetNow B w a v ps w'
theorem deliver_j (hps : ps.length ≤ 200) (k : Nat) (z f t : Int) (j : Nat) (hj : j < 256) (hz : z = (k : Int)) (hk : ps[k]? = some (pk1 f t j)) :
    Calls Try.prog 11 #[.pointer (some ⟨a, 0, none⟩), .int .i64 z] w (RetDelJ B w a v f t j (ps.eraseIdx k)) := by
  refine (deliver_one B w a v vs ps hN hps hB k z f t (UInt8.ofNat j) hz hk).mono ?_
  rintro e w' ⟨A, c, h1, h2, h3, h4⟩
  have hb : bc [UInt8.ofNat j] = [.int .u8 (j : Int)] := by
    show [Value.int .u8 ((UInt8.ofNat j).toNat : Int)] = _
    rw [byte_nat hj]
  rw [hb] at h2
  obtain ⟨q, c', e1, g1, g2, g3, g4, g5⟩ := own_head (Or.inl h2) (by omega)
  injection e1 with e1 e2 e3
  subst e1 e3
  exact ⟨q, c, h1, g5, h3, g1, h4⟩
end

set_option maxRecDepth 100000 in
set_option maxHeartbeats 8000000 in
theorem netOnce_walk (w : World) (N : Int) (w0 : (Lit.int .i64 N).wf = true) (A : Option Addr) (n c : Nat) (zs : List Int) (hz : Reads w w.heap.size 1 A n (zs.map (Value.int .i64))) (hzw : ∀ z ∈ zs, -9223372036854775808 ≤ z ∧ z ≤ 9223372036854775807) (hnc : n ≤ c) (hm : c ≤ maxLen) :
    Calls Try.prog 3 #[.int .i64 N, .slice A n c] w (RetTrue w) := by
  obtain ⟨hn0, hn1⟩ := wf_int' w0
  have hmx : n ≤ 9223372036854775807 := by unfold maxLen at hm; omega
  have HZ := Lib.hid hz
  clear w0 hz hzw
  have hbad : (N < 0) ∨ (¬ N < 0 ∧ 100 < N) ∨ (¬ N < 0 ∧ ¬ 100 < N ∧ 200 < n) ∨ (¬ N < 0 ∧ ¬ 100 < N ∧ ¬ 200 < n) := by omega
  rcases hbad with g1 | ⟨g0, g1⟩ | ⟨g0, g2, g1⟩ | ⟨g0, g1, g2⟩
  · go_enter Try.func3, Try.ntmps3
    go_wp2_with (first
      | (refine wpList_unguard rfl ?_)
      | (go_at_call 8; refine (awake_any _).mono ?_; rintro e w' ⟨rfl, hb⟩))
    go_ret
    exact ⟨rfl, hb⟩
  · have g0d : decide (N < 0) = false := by simpa using g0
    go_enter Try.func3, Try.ntmps3
    go_wp2_with (first
      | (refine wpList_unguard rfl ?_)
      | (go_at_call 8; refine (awake_any _).mono ?_; rintro e w' ⟨rfl, hb⟩))
    go_ret
    exact ⟨rfl, hb⟩
  · have g0d : decide (N < 0) = false := by simpa using g0
    have g2d : decide (100 < N) = false := by simpa using g2
    have g1d : (200 : Int) < (n : Int) := by omega
    go_enter Try.func3, Try.ntmps3
    go_wp2_with (first
      | (refine wpList_unguard rfl ?_)
      | (go_at_call 8; refine (awake_any _).mono ?_; rintro e w' ⟨rfl, hb⟩))
    go_ret
    exact ⟨rfl, hb⟩
  obtain ⟨K, rfl⟩ : ∃ K : Nat, N = (K : Int) := ⟨N.toNat, by omega⟩
  have hK : K ≤ 100 := by omega
  have g0d : decide ((K : Int) < 0) = false := by simp
  have g1d : decide ((100 : Int) < (K : Int)) = false := by simp; omega
  have g2d : decide ((200 : Int) < (n : Int)) = false := by simp; omega
  have hn200 : n ≤ 200 := by omega
  clear g0 g1 g2
  go_enter Try.func3, Try.ntmps3
  go_wp2_with (refine wpList_unguard rfl ?_)
  have HN0 := Lib.hid (net_new w)
  have HB0 : Hid (Below w.heap.size w (w.alloc (.cells #[.slice none 0 0] 27))) := Lib.hid ((Below.refl _ _).alloc (Nat.le_refl _) _)
  clear g0d g1d g2d
  go_loopw [6] (fun s wr => ∃ (i : Nat) (v : Value) (vs : List PkV), i ≤ K ∧ s = .int .i64 i ∧ Hid (NetAt w.heap.size wr w.heap.size v vs ((List.range i).map (pk1 1 2))) ∧ Hid (Below w.heap.size w wr)) (fun s _ => K - (intOf s).toNat)
  case atStart => exact ⟨0, _, [], Nat.zero_le _, rfl, HN0, HB0⟩
  case round =>
    obtain ⟨i, v, vs, hi, rfl, HN, HB⟩ := hrel
    by_cases hlt : i < K
    · refine code_hide (fun Q0 HQ0 => ?_)
      have hw8 : IntKind.u8.wrap (i : Int) = (i : Int) := by
        exact IntWalk.u8_in _ (by omega)
      have hi200 : (i : Int) < 200 := by omega
      have HS := Lib.hid (send_j w.heap.size wr w.heap.size v vs _ HN.out HB.out.size (by simp; omega) 1 2 rfl rfl (by omega) i (by omega))
      go_wp2_with (go_at_call 9; refine HS.out.mono ?_; rintro e w2 ⟨rfl, v2, vs2, hn2, hk2, hg2⟩; have HN2 := Lib.hid hn2; have HK2 := Lib.hid hk2; clear hn2 hk2 hg2)
      refine hide_out HQ0 ?_
      go_step
      go_roundw
      case rel =>
        refine ⟨i + 1, v2, vs2, by omega, by go_num, Lib.hid ?_, Lib.hid ?_⟩
        · rw [List.range_succ, List.map_append]; exact HN2.out
        · exact HB.out.trans (HK2.out.below HB.out.size (fun k hf => Or.elim hf (fun e => by omega) (fun e => (HN.out.row.lt k e).1)))
      case measure => simp [intOf]; omega
    · obtain rfl : K = i := by omega
      have hmin : (if (200 : Int) < (K : Int) then (200 : Int) else (K : Int)) = (K : Int) := by rw [if_neg (by omega)]
      obtain ⟨i0, hib, hz0, hz1, hz2⟩ := info_parts Try.infoBool
      have hbd : i0.bytes * 100 ≤ 281474976710656 := by rw [hz2]; omega
      go_wp2_with (at_make; refine wpList_make_full _ rfl (.const (.int .i64 100)) (.const (.int .i64 100)) _ rfl w.heap.size 4 i0 (.bool false) 1 Try.underlying32 hib hz0 hz1 _ _ _ _ 100 rfl rfl rfl rfl hbd (by simp [maxLen]) HB.out.size ?_; intro w1 ho1 hg1; have HO1 := Lib.hid ho1; have HG1 := Lib.hid hg1; clear ho1 hg1)
      have HK1 : Hid (Kept (fun _ => False) wr w1) := Lib.hid (Kept.of_grown HG1.out (fun b e => by cases e))
      have HN1 : Hid (NetAt w.heap.size w1 w.heap.size v vs ((List.range K).map (pk1 1 2))) := Lib.hid (HN.out.keep HK1.out id (fun _ _ => id) (fun _ _ _ => id))
      have HB1 : Hid (Below w.heap.size w w1) := Lib.hid (HB.out.trans (HK1.out.below HB.out.size (fun _ h => h.elim)))
      clear HG1 HK1 HN HB hmin
      generalize wr.heap.size = M at *
      go_loopg [8, 9] K (fun gk s8 s9 ww => ∃ (xs : List Nat) (i L : Nat) (v : Value) (vs : List PkV) (mc : List Value), L = gk ∧ s8 = .int .i64 L ∧ s9 = .int .i64 i ∧ i + L = K ∧ Hid (xs.length = L) ∧ Hid (xs.Nodup ∧ ∀ x ∈ xs, x < 100 ∧ mc[x]? = some (.bool false)) ∧ Hid (NetAt w.heap.size ww w.heap.size v vs (xs.map (pk1 1 2))) ∧ Hid (Below w.heap.size w ww) ∧ Hid (ww.ownsRow w.heap.size 4 1 (.slice (some ⟨M, 0, none⟩) 100 100) 100 mc))
      case atStart => exact ⟨List.range K, 0, K, v, vs, _, rfl, rfl, rfl, by omega, Lib.hid (by simp), Lib.hid ⟨List.nodup_range, fun x hx => ⟨by have := List.mem_range.1 hx; omega, made_false x (by have := List.mem_range.1 hx; omega)⟩⟩, HN1, HB1, HO1⟩
      case round =>
        obtain ⟨xs, i, L, v, vs, mc, rfl, rfl, rfl, hiL, HXL, HX, HN, HB, HM⟩ := hrel
        by_cases hL : 0 < L
        · have hLp : (0 : Int) < (L : Int) := by omega
          go_upto_if 53 with fail
          go_cut [10] from 46 to 98 (fun s10 wx => ∃ k : Nat, k < L ∧ s10 = .int .i64 k ∧ wr = wx)
          case first =>
            by_cases hin : i < n
            · obtain ⟨ad, u, rfl, hab, hu, hcell⟩ := (HZ.out.below HB.out).at_ hin
              rw [List.getElem?_map, Option.map_eq_some_iff] at hu
              obtain ⟨z, _, rfl⟩ := hu
              have hbd2 := roundZ_bd z L hLp
              have HBD := Lib.hid hbd2
              clear hbd2
              go_wp2_with (go_at_call 10; refine (round_any z L _ (by omega) (by omega)).mono ?_; rintro e w' ⟨rfl, rfl⟩)
              go_meet
              exact ⟨(roundZ z L).toNat, by have := HBD.out; omega, by rw [Int.toNat_of_nonneg HBD.out.1], rfl⟩
            · go_wp2_with fail
              go_meet
              exact ⟨0, hL, rfl, rfl⟩
          case rest =>
            obtain ⟨k, hk, rfl, rfl⟩ := hcut
            obtain ⟨x, hx⟩ : ∃ x, xs[k]? = some x := ⟨_, List.getElem?_eq_getElem (by have := HXL.out; omega)⟩
            obtain ⟨hx100, hmx'⟩ := HX.out.2 x (List.mem_of_getElem? hx)
            have HD := Lib.hid (deliver_j w.heap.size wr w.heap.size v vs _ HN.out HB.out.size (by rw [List.length_map, HXL.out]; omega) k k 1 2 x (by omega) rfl (by rw [List.getElem?_map, hx]; rfl))
            have HXK := Lib.hid hx
            have HMX := Lib.hid hmx'
            clear hx hmx'
            go_upto_region 18 with (go_at_call 11; ((with_reducible refine HD.out.mono ?_); rintro e w3 ⟨q, cq, rfl, ho3, hm3, hc3, v3, vs3, hn3, hk3, hg3⟩; have HO3 := Lib.hid ho3; have HN3 := Lib.hid hn3; have HK3 := Lib.hid hk3; clear ho3 hn3 hk3 hg3))
            have HM3 : Hid (w3.ownsRow w.heap.size 4 1 (.slice (some ⟨M, 0, none⟩) 100 100) 100 mc) := Lib.hid (HK3.out.own HM.out (fun g hg hf => Or.elim hf (fun e => own_apart_one HM.out HN.out.cell (by decide) (by rw [hg, e])) (fun e => own_apart HM.out HN.out.row (by decide) hg e)))
            have HB3 : Hid (Below w.heap.size w w3) := Lib.hid (HB.out.trans (HK3.out.below HB.out.size (fun g hf => Or.elim hf (fun e => by omega) (fun e => (HN.out.row.lt g e).1))))
            have HW : Hid (NetAt w.heap.size (w3.alloc (.cells #[.int .i64 1, .int .i64 2, .slice (some ⟨q, 0, none⟩) 1 cq] 31)) w.heap.size v3 vs3 ((xs.eraseIdx k).map (pk1 1 2)) ∧ (w3.alloc (.cells #[.int .i64 1, .int .i64 2, .slice (some ⟨q, 0, none⟩) 1 cq] 31)).rangeAt w3.heap.size 0 [.int .i64 1, .int .i64 2, .slice (some ⟨q, 0, none⟩) 1 cq] ∧ (w3.alloc (.cells #[.int .i64 1, .int .i64 2, .slice (some ⟨q, 0, none⟩) 1 cq] 31)).ownsRow wr.heap.size 5 1 (.slice (some ⟨q, 0, none⟩) 1 cq) 1 [.int .u8 (x : Int)] ∧ (w3.alloc (.cells #[.int .i64 1, .int .i64 2, .slice (some ⟨q, 0, none⟩) 1 cq] 31)).ownsRow w.heap.size 4 1 (.slice (some ⟨M, 0, none⟩) 100 100) 100 mc ∧ Below w.heap.size w (w3.alloc (.cells #[.int .i64 1, .int .i64 2, .slice (some ⟨q, 0, none⟩) 1 cq] 31))) := Lib.hid
              ⟨by have := HN3.out.grow ((Below.refl _ _).alloc (Nat.le_refl _) (.cells #[.int .i64 1, .int .i64 2, .slice (some ⟨q, 0, none⟩) 1 cq] 31)); rwa [erase_map] at this, range_new w3 [.int .i64 1, .int .i64 2, .slice (some ⟨q, 0, none⟩) 1 cq] _, HO3.out.kept (World.grownBy_alloc w3 _ none) (own_or _), HM3.out.kept (World.grownBy_alloc w3 _ none) (own_or _), HB3.out.alloc HB3.out.size _⟩
            clear HN3 HO3 HM3 HB3 HK3
            generalize (w3.alloc (.cells #[.int .i64 1, .int .i64 2, .slice (some ⟨q, 0, none⟩) 1 cq] 31)) = W4 at *
            generalize w3.heap.size = b11 at *
            have x2 : W4.cell? ⟨b11, 2, none⟩ = some (.slice (some ⟨q, 0, none⟩) 1 cq) := HW.out.2.1 2 _ rfl
            have xb : W4.cell? ⟨q, 0, none⟩ = some (.int .u8 (x : Int)) := (own_cell HW.out.2.2.1 (j := 0) rfl).1
            obtain ⟨xm, xf⟩ := own_cell HW.out.2.2.2.1 HMX.out
            have hx100i : (x : Int) < 100 := by omega
            have hx100d : decide ((100 : Int) ≤ (x : Int)) = false := by simp; omega
            go_wp2_with (refine wpList_unguard rfl ?_)
            go_roundg (L - 1)
            case measure => omega
            case rel =>
              have hkl : k < xs.length := by have := HXL.out; omega
              refine ⟨xs.eraseIdx k, i + 1, L - 1, v3, vs3, mc.set x (.bool true), rfl, ?_, by go_num, by omega, Lib.hid ?_, Lib.hid ⟨HX.out.1.sublist (List.eraseIdx_sublist xs k), fun y hy => ?_⟩, Lib.hid ?_, Lib.hid (HW.out.2.2.2.2.setCell (HW.out.2.2.2.1.lt M rfl).1 _), Lib.hid (own_setCell HW.out.2.2.2.1 (by omega) _)⟩
              · congr 1; omega
              · rw [List.length_eraseIdx_of_lt hkl, HXL.out]
              · obtain ⟨i', hik, hi'⟩ := List.mem_eraseIdx_iff_getElem?.1 hy
                obtain ⟨y1, y2⟩ := HX.out.2 y (List.mem_of_getElem? hi')
                refine ⟨y1, ?_⟩
                rw [List.getElem?_set_ne]
                · exact y2
                · intro e
                  subst e
                  exact hik ((List.getElem?_inj (List.getElem?_eq_some_iff.1 hi').1 HX.out.1).1 (by rw [hi', HXK.out]))
              · refine HW.out.1.keep (S := fun b => b = M) ((Kept.refl (fun b => b = M) W4).setCell (a := ⟨M, x, none⟩) (fun _ => rfl) _) (fun e => own_apart_one HW.out.2.2.2.1 HW.out.1.cell (by decide) (by rw [e]; rfl)) (fun g hg e => own_apart HW.out.1.row HW.out.2.2.2.1 (by decide) hg (by rw [e]; rfl)) (fun g cc hg e => ?_)
                rw [e] at hg
                rcases HW.out.2.2.2.1.2 with ⟨e1, _⟩ | ⟨g1, cap, cur, e1, _, hh, _⟩
                · cases e1
                · injection e1 with e1
                  injection e1 with e1
                  injection e1 with e1
                  subst e1
                  rw [hg] at hh
                  injection hh with hh
                  injection hh with _ hh
                  exact absurd hh (by decide)
        · obtain rfl : L = 0 := by omega
          obtain rfl : xs = [] := List.eq_nil_of_length_eq_zero HXL.out
          obtain ⟨A6, c6, hv6, _⟩ := Owns.form (Or.inl HN.out.row)
          have HLEN : Hid (Calls Try.prog 12 #[.pointer (some ⟨w.heap.size, 0, none⟩)] wr fun e w' => e = .returned (.int .i64 0) ∧ wr = w') := Lib.hid (len_any wr w.heap.size A6 0 c6 (Nat.zero_le _) (by rw [cell_of_one HN.out.cell, hv6]; rfl))
          clear hv6
          go_wp2_with (first
            | (refine wpList_unguard rfl ?_)
            | (go_at_call 12; ((with_reducible refine HLEN.out.mono ?_); rintro e w' ⟨rfl, rfl⟩))
            | (go_at_call 8; refine (awake_any _).mono ?_; rintro e w' ⟨rfl, hb⟩))
          go_ret
          exact RetTrue.from HB.out ⟨rfl, hb⟩
end Go.Proofs.Ytlgkgmnnmlhaeaa
