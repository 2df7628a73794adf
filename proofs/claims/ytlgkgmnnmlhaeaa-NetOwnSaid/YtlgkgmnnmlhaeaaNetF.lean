import Derived.Test.YtlgkgmnnmlhaeaaNetE
import Derived.Test.YtlgkgmnnmlhaeaaAlike
namespace Go.Proofs.Ytlgkgmnnmlhaeaa
open Go.RowKit
set_option linter.unusedVariables false

theorem NetAt.keep2 {B : Nat} {w w1 : World} {S : Nat → Prop} {a : Nat} {v : Value} {vs : List PkV} {ps : List Pk} (h : NetAt B w a v vs ps) (hk : Kept S w w1)
    (ha : ¬ S a) (hv : ∀ g, v.ownBlock = some g → ¬ S g) (hb : ∀ x ∈ vs, ∀ g, x.v.ownBlock = some g → ¬ S g) : NetAt B w1 a v vs ps := by
  refine ⟨h.lo, ?_, hk.own h.row hv, h.len, fun i x p h1 h2 => ?_⟩
  · rw [hk.block a (Array.getElem?_eq_some_iff.1 h.cell).1 ha]; exact h.cell
  · obtain ⟨g1, g2, g3⟩ := h.pks i x p h1 h2
    exact ⟨g1, g2, hk.own g3 (hb x (List.mem_of_getElem? h1))⟩
theorem below_next {w a b : World} (h : Below w.heap.size w a) (k : Below a.heap.size a b) : Below w.heap.size w b := h.trans (k.mono h.size)
/-- A packet is sent to a new net; its bytes there are fresh. -/
theorem send_first (w W4 : World) (A4 : Option Addr) (n c4 : Nat) (l : List UInt8) (hl : l.length = n) (hn : n ≤ 500) (B4 : Nat) (hB4 : w.heap.size < B4) (hN : NetAt w.heap.size W4 w.heap.size (.slice none 0 0) [] []) (hB : Below w.heap.size w W4) (hO : W4.ownsRow B4 5 1 (.slice A4 n c4) n (bc l)) :
    Calls Try.prog 9 #[.pointer (some ⟨w.heap.size, 0, none⟩), .slice (some ⟨W4.heap.size, 0, none⟩) 1 1] (W4.alloc (.cells #[.int .i64 3, .int .i64 4, .slice A4 n c4] 31)) fun e w' =>
      e = .returned (.int .i64 1) ∧ ∃ v' vs', NetAt w.heap.size w' w.heap.size v' vs' [⟨3, 4, l⟩] ∧ Below w.heap.size w w' ∧ w'.ownsRow B4 5 1 (.slice A4 n c4) n (bc l) ∧ ∀ x ∈ vs', ∀ g, x.v.ownBlock = some g → W4.heap.size ≤ g := by
  have hb5 : Below W4.heap.size W4 (W4.alloc (.cells #[.int .i64 3, .int .i64 4, .slice A4 n c4] 31)) := (Below.refl _ _).alloc (Nat.le_refl _) _
  have r5 : (W4.alloc (.cells #[.int .i64 3, .int .i64 4, .slice A4 n c4] 31)).rangeAt W4.heap.size 0 [.int .i64 3, .int .i64 4, .slice A4 n c4] := range_new W4 [.int .i64 3, .int .i64 4, .slice A4 n c4] _
  have s5 : (W4.alloc (.cells #[.int .i64 3, .int .i64 4, .slice A4 n c4] 31)).heap.size = W4.heap.size + 1 := alloc_size _ _
  have o5 : (W4.alloc (.cells #[.int .i64 3, .int .i64 4, .slice A4 n c4] 31)).ownsRow B4 5 1 (.slice A4 n c4) n (bc l) := own_below hO hb5 (Nat.le_refl _)
  have n5 := hN.grow hb5
  have s4 := hB.size
  generalize (W4.alloc (.cells #[.int .i64 3, .int .i64 4, .slice A4 n c4] 31)) = W5 at *
  subst hl
  have hfoot : ∀ q, w.heap.size < q → ¬ foot w.heap.size (.slice none 0 0) q := fun q hq hf => Or.elim hf (fun e => by omega) (fun e => by cases e)
  have hsl : sendL [] [⟨3, 4, l⟩] = [⟨3, 4, l⟩] := by
    have : mayL ([] : List Pk).length ⟨3, 4, l⟩ = true := by simp [mayL, nodeL]; omega
    rw [sendL, if_pos this]; rfl
  have h := send_fresh w.heap.size W5 w.heap.size (.slice none 0 0) [] [] n5 (by omega) (by simp) (some ⟨W4.heap.size, 0, none⟩) 1 1 [⟨3, 4, .slice A4 l.length c4⟩] [⟨3, 4, l⟩] (fun W' hk => ⟨reads_of_range (kept_range hk r5 (by omega) (hfoot _ (by have := hN.lt; omega))) rfl (by omega), fun i u q h1 h2 => by
    cases i with
    | zero =>
      simp at h1 h2
      subst h1 h2
      exact ⟨rfl, rfl, _, _, rfl, by simp only; omega, own_reads_in (hk.own o5 (fun g hg => hfoot g (by have := (o5.lt g hg).1; omega))) (fun g hg => (o5.lt g hg).2)⟩
    | succ i => simp at h1⟩) rfl rfl (by omega)
  refine h.mono ?_
  rintro e w' ⟨he, v', vs', h1, h2, h3, h4⟩
  rw [hsl] at he h1
  refine ⟨by rw [he]; rfl, v', vs', h1, (hB.trans (hb5.mono s4)).trans (h2.below (by omega) (fun k hf => Or.elim hf (fun e => by rw [e]; exact Nat.le_refl _) (fun e => by cases e))), h2.own o5 (fun g hg => hfoot g (by have := (o5.lt g hg).1; omega)), fun x hx g hg => ?_⟩
  rcases h4 x hx with h | h
  · simp at h
  · have := h g hg; omega

set_option maxRecDepth 100000 in
set_option maxHeartbeats 8000000 in
theorem netOwn_walk (w : World) (A : Option Addr) (n c : Nat) (l : List UInt8) (hr : Reads w w.heap.size 1 A n (bc l)) (hnc : n ≤ c) (hm : c ≤ maxLen) :
    Calls Try.prog 7 #[.slice A n c] w (RetTrue w) := by
  have hl : l.length = n := by have := hr.1; rw [bc_length] at this; omega
  have hmx : n ≤ 9223372036854775807 := by unfold maxLen at hm; omega
  have HR := Lib.hid hr
  have HL := Lib.hid hl
  clear hr hl
  by_cases h500 : 500 < n
  · have h5 : (500 : Int) < (n : Int) := by omega
    go_enter Try.func7, Try.ntmps7
    go_wp2_with (go_at_call 8; refine (awake_any _).mono ?_; rintro e w' ⟨rfl, hb⟩)
    go_ret
    exact ⟨rfl, hb⟩
  have h5 : decide ((500 : Int) < (n : Int)) = false := by simp; omega
  have hn5 : n ≤ 500 := by omega
  go_enter Try.func7, Try.ntmps7
  go_upto_region 4 with (go_at_call 13; refine (new_any _).mono ?_; rintro e wn ⟨rfl, rfl⟩)
  have HN1 : Hid (NetAt w.heap.size (w.alloc (.cells #[.slice none 0 0] 27)) w.heap.size (.slice none 0 0) [] [] ∧ Below w.heap.size w (w.alloc (.cells #[.slice none 0 0] 27)) ∧ w.heap.size + 1 = (w.alloc (.cells #[.slice none 0 0] 27)).heap.size) := Lib.hid ⟨net_new w, (Below.refl _ _).alloc (Nat.le_refl _) _, (alloc_size _ _).symm⟩
  generalize (w.alloc (.cells #[.slice none 0 0] 27)) = W1 at *
  go_upto_region 5 with (at_builtin; refine app_bytes _ rfl (.tmp 17) (.tmp 18) rfl W1.heap.size _ 0 [] rfl (.inl (World.ownsRow_made W1 #[] 0 (Nat.le_refl _) (Nat.zero_le _) rfl)) w.heap.size _ n _ (bc l) rfl ((HR.out.below HN1.out.2.1).alloc HN1.out.2.1.size _) (bc_one _) (by omega) (le_alloc (Nat.le_refl _)) ?_; intro v4 w4 ho4 hb4 hr4; have HO4 := Lib.hid (hr4 (.inl (World.ownsRow_made W1 #[] 0 (Nat.le_refl _) (Nat.zero_le _) rfl))); obtain ⟨A4, c4, rfl, hc4, hm4, _⟩ := ho4.form; have HB4 := Lib.hid hb4; have HC4 := Lib.hid hc4; clear ho4 hb4 hr4 hc4)
  have HB4 : Hid (Below W1.heap.size W1 w4) := Lib.hid (((Below.refl _ _).alloc (Nat.le_refl _) _).trans HB4.out)
  have hb4s := HB4.out.size
  have HN4 : Hid (NetAt w.heap.size w4 w.heap.size (.slice none 0 0) [] []) := Lib.hid (HN1.out.1.grow HB4.out)
  have HBW : Hid (Below w.heap.size w w4) := Lib.hid (HN1.out.2.1.trans (HB4.out.mono (by have h1 := HN1.out.2.2; rw [← h1]; omega)))
  have HO4' : Hid (w4.ownsRow W1.heap.size 5 1 (.slice A4 n c4) n (bc l)) := Lib.hid (by have := HO4.out; simpa using this)
  have HS := Lib.hid (send_first w w4 A4 n c4 l HL.out hn5 W1.heap.size (by have := HN1.out.2.2; omega) HN4.out HBW.out HO4'.out)
  clear HB4 HO4
  go_upto_region 7 with (first
    | (refine wpList_unguard rfl ?_)
    | (go_at_call 9; refine HS.out.mono ?_; rintro e w6 ⟨rfl, v6, vs6, hn6, hb6, ho6, hf6⟩; have HN6 := Lib.hid hn6; have HB6 := Lib.hid hb6; have HO6 := Lib.hid ho6; have HF6 := Lib.hid hf6; clear hn6 hb6 ho6 hf6)
    | (go_at_call 24; refine (bytes_same A4 A n c4 c l w6 (Reads.of_own HO6.out) (HR.out.below HB6.out) (by simp [maxLen]; omega)).mono ?_; rintro e w7 ⟨rfl, m7, rfl⟩))
  have HLT4 : Hid (∀ g, (Value.slice A4 n c4).ownBlock = some g → W1.heap.size ≤ g ∧ g < w4.heap.size) := Lib.hid (HO4'.out.lt)
  have HN7 : Hid (NetAt w.heap.size (w6.drewN m7) w.heap.size v6 vs6 [⟨3, 4, l⟩] ∧ Below w.heap.size w (w6.drewN m7) ∧ (w6.drewN m7).ownsRow W1.heap.size 5 1 (.slice A4 n c4) n (bc l)) := Lib.hid
    ⟨HN6.out.keep (S := fun _ => False) ((Kept.refl _ _).drewN _) id (fun _ _ => id) (fun _ _ _ => id), below_drewN HB6.out _, HO6.out⟩
  clear HN6 HB6 HO6 HS HN4 HBW
  generalize w6.drewN m7 = W7 at *
  go_wp2
  go_loopw [5] (fun s wr => ∃ (j : Nat) (xs : List Value), j ≤ n ∧ s = .int .i64 j ∧ Hid (∀ q, q < n → ∃ y : Int, xs[q]? = some (.int .u8 y)) ∧ Hid (wr.ownsRow W1.heap.size 5 1 (.slice A4 n c4) n xs) ∧ Hid (NetAt w.heap.size wr w.heap.size v6 vs6 [⟨3, 4, l⟩]) ∧ Hid (Below w.heap.size w wr)) (fun s _ => n - (intOf s).toNat)
  case atStart => exact ⟨0, bc l, Nat.zero_le _, rfl, Lib.hid (fun q hq => ⟨_, by rw [show (bc l)[q]? = _ from List.getElem?_map .., List.getElem?_eq_getElem (by have := HL.out; omega)]; rfl⟩), Lib.hid HN7.out.2.2, Lib.hid HN7.out.1, Lib.hid HN7.out.2.1⟩
  case round =>
    obtain ⟨j, xs, hj, rfl, HXS, HO, HN, HB⟩ := hrel
    by_cases hlt : j < n
    · refine code_hide (fun Q0 HQ0 => ?_)
      obtain ⟨y, hy⟩ := HXS.out j hlt
      obtain ⟨g, c', e, _, _, hgb, hgl, hgo⟩ := own_head (Or.inl HO.out) (by omega)
      injection e with e1 e2 e3
      subst e1 e3
      obtain ⟨xc, xf⟩ := own_cell hgo hy
      have HY := Lib.hid hy
      have HGO := Lib.hid hgo
      have hgw : g < w4.heap.size := (HLT4.out g rfl).2
      clear hy hgo
      go_wp2
      refine hide_out HQ0 ?_
      go_step
      go_roundw
      case rel =>
        refine ⟨j + 1, xs.set j (.int .u8 (IntKind.u8.wrap (y + 1))), by omega, by go_num, Lib.hid (fun q hq => ?_), Lib.hid (own_setCell HGO.out (by omega) _), Lib.hid ?_, Lib.hid (HB.out.setCell (by have := HN1.out.2.2; show w.heap.size ≤ g; omega) _)⟩
        · by_cases hqj : q = j
          · subst hqj
            exact ⟨_, List.getElem?_set_self (by have := HGO.out.1; omega)⟩
          · rw [List.getElem?_set_ne (by omega)]; exact HXS.out q hq
        · refine HN.out.keep2 (S := fun b => b = g) ((Kept.refl (fun b => b = g) wr).setCell (a := ⟨g, j, none⟩) (fun _ => rfl) _) (fun e => own_apart_one HGO.out HN.out.cell (by decide) (by rw [e]; rfl)) (fun q hq e => own_apart HN.out.row HGO.out (by decide) hq (by rw [e]; rfl)) (fun x hx q hq e => by have := HF6.out x hx q hq; omega)
      case measure => simp [intOf]; omega
    · obtain rfl : n = j := by omega
      have hnn : ¬ n < n := by omega
      clear HXS HO HF6 HLT4 HO4' HN7 hnn
      obtain ⟨Wp, rfl⟩ : ∃ W, W = wr := ⟨wr, rfl⟩
      have HP : Hid (Calls Try.prog 16 #[.pointer (some ⟨w.heap.size, 0, none⟩), .int .i64 0] Wp fun e w' => ∃ A c, e = .returned (.tuple #[.agg #[.int .i64 3, .int .i64 4, .slice A n c], .bool true]) ∧ w'.ownsRow Wp.heap.size 5 1 (.slice A n c) n (bc l) ∧ Below Wp.heap.size Wp w') := Lib.hid (by
        have h := peek_some w.heap.size Wp w.heap.size v6 vs6 _ HN.out (by simp) 0 ⟨3, 4, l⟩ rfl (by have := HL.out; simp only; omega)
        refine Calls.mono h ?_
        rintro e w' ⟨A, c, h1, h2, _, _, h3⟩
        simp only [HL.out] at h1 h2
        exact ⟨A, c, h1, h2, h3⟩)
      have HV6 : Hid (∀ x ∈ vs6, ∀ g, x.v.ownBlock = some g → g < Wp.heap.size) := Lib.hid fun x hx g hg => by
        obtain ⟨i, hi, rfl⟩ := List.getElem_of_mem hx
        have hi2 : i < [(⟨3, 4, l⟩ : Pk)].length := by rw [← HN.out.len]; exact hi
        exact ((HN.out.pks i _ _ (List.getElem?_eq_getElem hi) (List.getElem?_eq_getElem hi2)).own.lt g hg).2
      go_upto_region 12 with (go_at_call 16; refine HP.out.mono ?_; rintro e w8 ⟨A8, c8, rfl, ho8, hb8⟩; have HO8 := Lib.hid ho8; have HB8 := Lib.hid hb8; clear ho8 hb8)
      have HLT8 : Hid (∀ g, (Value.slice A8 n c8).ownBlock = some g → Wp.heap.size ≤ g ∧ g < w8.heap.size) := Lib.hid (HO8.out.lt)
      have HW9 : Hid (NetAt w.heap.size (w8.alloc (.cells #[.int .i64 3, .int .i64 4, .slice A8 n c8] 31)) w.heap.size v6 vs6 [⟨3, 4, l⟩] ∧ Below w.heap.size w (w8.alloc (.cells #[.int .i64 3, .int .i64 4, .slice A8 n c8] 31)) ∧ (w8.alloc (.cells #[.int .i64 3, .int .i64 4, .slice A8 n c8] 31)).ownsRow Wp.heap.size 5 1 (.slice A8 n c8) n (bc l) ∧ (w8.alloc (.cells #[.int .i64 3, .int .i64 4, .slice A8 n c8] 31)).rangeAt w8.heap.size 0 [.int .i64 3, .int .i64 4, .slice A8 n c8] ∧ w8.heap.size < (w8.alloc (.cells #[.int .i64 3, .int .i64 4, .slice A8 n c8] 31)).heap.size ∧ w.heap.size ≤ Wp.heap.size) := Lib.hid
        ⟨(HN.out.grow HB8.out).grow ((Below.refl _ _).alloc (Nat.le_refl _) _), (HB.out.trans (HB8.out.mono HB.out.size)).alloc (by have := HB.out.size; have := HB8.out.size; omega) _, HO8.out.kept (World.grownBy_alloc w8 _ none) (own_or _), range_new w8 [.int .i64 3, .int .i64 4, .slice A8 n c8] _, by rw [alloc_size]; omega, HB.out.size⟩
      clear HN HB HP HO8 HB8
      generalize (w8.alloc (.cells #[.int .i64 3, .int .i64 4, .slice A8 n c8] 31)) = W9 at *
      generalize w8.heap.size = b6 at *
      have x2 : W9.cell? ⟨b6, 2, none⟩ = some (.slice A8 n c8) := HW9.out.2.2.2.1 2 _ rfl
      go_upto_region 14 with (go_at_call 24; refine (bytes_same A8 A n c8 c l W9 (Reads.of_own HW9.out.2.2.1) (HR.out.below HW9.out.2.1) (by simp [maxLen]; omega)).mono ?_; rintro e w10 ⟨rfl, m10, rfl⟩)
      have HW10 : Hid (NetAt w.heap.size (W9.drewN m10) w.heap.size v6 vs6 [⟨3, 4, l⟩] ∧ Below w.heap.size w (W9.drewN m10) ∧ (W9.drewN m10).ownsRow Wp.heap.size 5 1 (.slice A8 n c8) n (bc l) ∧ (W9.drewN m10).rangeAt b6 0 [.int .i64 3, .int .i64 4, .slice A8 n c8] ∧ b6 < (W9.drewN m10).heap.size ∧ w.heap.size ≤ Wp.heap.size) := Lib.hid
        ⟨HW9.out.1.keep (S := fun _ => False) ((Kept.refl _ _).drewN _) id (fun _ _ => id) (fun _ _ _ => id), below_drewN HW9.out.2.1 _, HW9.out.2.2.1, HW9.out.2.2.2.1, HW9.out.2.2.2.2.1, HW9.out.2.2.2.2.2⟩
      clear HW9 x2
      generalize W9.drewN m10 = W10 at *
      go_wp2
      go_loopw [8] (fun s ww => ∃ (j : Nat) (xs : List Value), j ≤ n ∧ s = .int .i64 j ∧ Hid (∀ q, q < n → ∃ y : Int, xs[q]? = some (.int .u8 y)) ∧ Hid (ww.ownsRow Wp.heap.size 5 1 (.slice A8 n c8) n xs) ∧ Hid (NetAt w.heap.size ww w.heap.size v6 vs6 [⟨3, 4, l⟩]) ∧ Hid (Below w.heap.size w ww) ∧ Hid (ww.rangeAt b6 0 [.int .i64 3, .int .i64 4, .slice A8 n c8])) (fun s _ => n - (intOf s).toNat)
      case atStart => exact ⟨0, bc l, Nat.zero_le _, rfl, Lib.hid (fun q hq => ⟨_, by rw [show (bc l)[q]? = _ from List.getElem?_map .., List.getElem?_eq_getElem (by have := HL.out; omega)]; rfl⟩), Lib.hid HW10.out.2.2.1, Lib.hid HW10.out.1, Lib.hid HW10.out.2.1, Lib.hid HW10.out.2.2.2.1⟩
      case round =>
        obtain ⟨j, xs, hj, rfl, HXS, HO, HN, HB, HB6⟩ := hrel
        have y2 : wr.cell? ⟨b6, 2, none⟩ = some (.slice A8 n c8) := HB6.out 2 _ rfl
        by_cases hlt : j < n
        · obtain ⟨y, hy⟩ := HXS.out j hlt
          obtain ⟨g, c', e, _, _, hgb, hgl, hgo⟩ := own_head (Or.inl HO.out) (by omega)
          injection e with e1 e2 e3
          subst e1 e3
          obtain ⟨xc, xf⟩ := own_cell hgo hy
          have HY := Lib.hid hy
          have HGO := Lib.hid hgo
          have hgw : Wp.heap.size ≤ g ∧ g < b6 := HLT8.out g rfl
          obtain ⟨hgw1, hgw2⟩ := hgw
          clear hy hgo
          go_upto_region 17 with fail
          go_region
          all_goals go_wp2
          all_goals go_roundw
          case rel =>
            refine ⟨j + 1, xs.set j (.int .u8 (IntKind.u8.wrap (y + 1))), by omega, by go_num, Lib.hid (fun q hq => ?_), Lib.hid (own_setCell HGO.out (by omega) _), Lib.hid ?_, Lib.hid ((HB.out.setCell (by have := HW10.out.2.2.2.2.2; show w.heap.size ≤ g; omega) _).drew), Lib.hid (range_setCell_other HB6.out (by show g ≠ b6; omega) _)⟩
            · by_cases hqj : q = j
              · subst hqj
                exact ⟨_, List.getElem?_set_self (by have := HGO.out.1; omega)⟩
              · rw [List.getElem?_set_ne (by omega)]; exact HXS.out q hq
            · refine (HN.out.keep2 (S := fun b => b = g) ((Kept.refl (fun b => b = g) wr).setCell (a := ⟨g, j, none⟩) (fun _ => rfl) _).drew (fun e => own_apart_one HGO.out HN.out.cell (by decide) (by rw [e]; rfl)) (fun q hq e => own_apart HN.out.row HGO.out (by decide) hq (by rw [e]; rfl)) (fun x hx q hq e => by have := HV6.out x hx q hq; omega))
          case measure => simp [intOf]; omega
        · obtain rfl : n = j := by omega
          clear HXS HO
          have HD : Hid (Calls Try.prog 11 #[.pointer (some ⟨w.heap.size, 0, none⟩), .int .i64 0] wr fun e w' => ∃ A c, e = .returned (.tuple #[.agg #[.int .i64 3, .int .i64 4, .slice A n c], .bool true]) ∧ w'.ownsRow wr.heap.size 5 1 (.slice A n c) n (bc l) ∧ Below w.heap.size w w') := Lib.hid (by
            have h := deliver_some w.heap.size wr w.heap.size v6 vs6 _ HN.out (by simp) HB.out.size 0 ⟨3, 4, l⟩ rfl (by have := HL.out; simp only; omega)
            refine Calls.mono h ?_
            rintro e w' ⟨A, c, h1, h2, _, _, h3⟩
            simp only [HL.out] at h1 h2
            exact ⟨A, c, h1, h2, HB.out.trans (netnow_below h3 (Nat.le_refl _) (fun g hg => (HN.out.row.lt g hg).1) HB.out.size)⟩)
          go_upto_region 19 with (go_at_call 11; refine HD.out.mono ?_; rintro e w11 ⟨A11, c11, rfl, ho11, hb11⟩; have HO11 := Lib.hid ho11; have HB11 := Lib.hid hb11; clear ho11 hb11)
          have HW12 : Hid (Below w.heap.size w (w11.alloc (.cells #[.int .i64 3, .int .i64 4, .slice A11 n c11] 31)) ∧ (w11.alloc (.cells #[.int .i64 3, .int .i64 4, .slice A11 n c11] 31)).ownsRow wr.heap.size 5 1 (.slice A11 n c11) n (bc l) ∧ (w11.alloc (.cells #[.int .i64 3, .int .i64 4, .slice A11 n c11] 31)).rangeAt w11.heap.size 0 [.int .i64 3, .int .i64 4, .slice A11 n c11]) := Lib.hid
            ⟨HB11.out.alloc HB11.out.size _, HO11.out.kept (World.grownBy_alloc w11 _ none) (own_or _), range_new w11 [.int .i64 3, .int .i64 4, .slice A11 n c11] _⟩
          clear HO11 HB11 HD
          generalize (w11.alloc (.cells #[.int .i64 3, .int .i64 4, .slice A11 n c11] 31)) = W12 at *
          generalize w11.heap.size = b9 at *
          have z2 : W12.cell? ⟨b9, 2, none⟩ = some (.slice A11 n c11) := HW12.out.2.2 2 _ rfl
          go_wp2_with (first
            | (refine wpList_unguard rfl ?_)
            | (go_at_call 24; refine (bytes_same A11 A n c11 c l W12 (Reads.of_own HW12.out.2.1) (HR.out.below HW12.out.1) (by simp [maxLen]; omega)).mono ?_; rintro e w13 ⟨rfl, m13, rfl⟩)
            | (refine wpList_load_mid rfl 31 _ rfl b9 0 rfl [.int .i64 3, .int .i64 4, .slice A11 n c11] _ HW12.out.2.2 Try.underlying31 rfl (by kernel_rfl) ?_)
            | (go_at_call 9; refine (send_nil ((W12.drewN m13).alloc (.cells #[.int .i64 3, .int .i64 4, .slice A11 n c11] 31)) W12.heap.size 1 3 4 A11 n c11 (range_new (W12.drewN m13) [.int .i64 3, .int .i64 4, .slice A11 n c11] _) (by rw [alloc_size]; exact Nat.lt_succ_self _)).mono ?_; rintro e w14 ⟨rfl, hb14⟩)
            | (go_at_call 12; refine (len_nil _).mono ?_; rintro e w' ⟨rfl, rfl⟩)
            | (go_at_call 20; refine (drop_nil _).mono ?_; rintro e w15 ⟨rfl, hb15⟩)
            | (go_at_call 14; refine (twice_nil _).mono ?_; rintro e w16 ⟨rfl, hb16⟩)
            | (go_at_call 15; refine (clear_nil _ _).mono ?_; rintro e w17 ⟨rfl, hb17⟩)
            | (go_at_call 8; refine (awake_any _).mono ?_; rintro e w' ⟨rfl, hb⟩))
          go_ret
          exact RetTrue.from (below_next (below_next (below_next (below_next ((below_drewN HW12.out.1 m13).alloc HW12.out.1.size _) hb14) hb15) hb16) hb17) ⟨rfl, hb⟩
end Go.Proofs.Ytlgkgmnnmlhaeaa
