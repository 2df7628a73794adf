/- The walk of NetPlays. No condition. -/
import Derived.Test.YtlgkgmnnmlhaeaaNetO
import Derived.Deep.CutBlock
import Derived.Deep.CutRange
import Derived.Deep.RegionHeld3
namespace Go.Proofs.Ytlgkgmnnmlhaeaa
open Go.RowKit
set_option linter.unusedVariables false

theorem pair_new (w : World) : Pair w ((w.alloc (.cells #[.slice none 0 0] 27)).alloc (.cells #[.slice none 0 0] 46)) (.slice none 0 0) [] [] (.slice none 0 0) [] [] := by
  have s1 : (w.alloc (.cells #[.slice none 0 0] 27)).heap.size = w.heap.size + 1 := alloc_size _ _
  refine ⟨(net_new w).grow ((Below.refl _ _).alloc (Nat.le_refl _) _), ⟨by omega, ?_, World.ownsRow_nil _ _ _ _, rfl, fun i x p h => by simp at h⟩, ((Below.refl _ _).alloc (Nat.le_refl _) _).alloc (by rw [s1]; omega) _, fun g h => by cases h⟩
  have := heap_alloc_new (w.alloc (.cells #[.slice none 0 0] 27)) (.cells #[.slice none 0 0] 46)
  rwa [s1] at this

set_option maxRecDepth 100000 in
set_option maxHeartbeats 16000000 in
theorem netPlays_walk (w : World) (A : Option Addr) (n c : Nat) (ss : List St) (hr : Reads w w.heap.size 3 A n (ss.flatMap St.cells)) (hs : ∀ s ∈ ss, s.ok w w.heap.size) (hl : ss.length = n) (hnc : n ≤ c) (hm : c ≤ 9223372036854775807) :
    Calls Try.prog 6 #[.slice A n c] w (RetTrue w) := by
  have HR := Lib.hid hr
  have HS := Lib.hid hs
  have HL := Lib.hid hl
  clear hr hs hl
  by_cases h150 : 150 < n
  · have h5 : (150 : Int) < (n : Int) := by omega
    go_enter Try.func6, Try.ntmps6
    go_wp2_with (go_at_call 8; refine (awake_any _).mono ?_; rintro e w' ⟨rfl, hb⟩)
    go_ret
    exact ⟨rfl, hb⟩
  have h5 : decide ((150 : Int) < (n : Int)) = false := by simp; omega
  have hn5 : n ≤ 150 := by omega
  go_enter Try.func6, Try.ntmps6
  go_upto_region 5 with (go_at_call 13; refine (new_any _).mono ?_; rintro e wn ⟨rfl, rfl⟩)
  have HP0 := Lib.hid (pair_new w)
  generalize ((w.alloc (.cells #[.slice none 0 0] 27)).alloc (.cells #[.slice none 0 0] 46)) = W2 at *
  go_wp2
  go_loopw [5] (fun s5 wr => ∃ (i : Nat) (va : Value) (vsa : List PkV) (vb : Value) (vsb : List PkV) (ps : List Pk), i ≤ n ∧ s5 = .int .i64 i ∧ Hid (Good ps) ∧ Hid (Pair w wr va vsa ps vb vsb ps)) (fun s _ => n - (intOf s).toNat)
  case atStart => exact ⟨0, _, _, _, _, [], Nat.zero_le _, rfl, Lib.hid ⟨by simp, fun p h => by simp at h⟩, HP0⟩
  case round =>
    obtain ⟨i, va, vsa, vb, vsb, ps, hi, rfl, HG, HP⟩ := hrel
    by_cases hlt : i < n
    · obtain ⟨s, hsi⟩ : ∃ s, ss[i]? = some s := ⟨_, List.getElem?_eq_getElem (by have := HL.out; omega)⟩
      obtain ⟨ad, rfl, hab, hcell⟩ := flat_reads St.cells_length (HR.out.below HP.out.below) hsi hlt
      obtain ⟨hk1, hk2, us, qs, hpk⟩ := HS.out s (List.mem_of_getElem? hsi)
      have hpk' := hpk
      obtain ⟨As, cs, hsl, hqc, hcm, _⟩ := hpk'
      obtain ⟨kind, sl, kz⟩ := s
      simp only at hsl hk1 hk2
      subst hsl
      have HPK : Hid (IsPks w w.heap.size (.slice As qs.length cs) us qs) := Lib.hid hpk
      obtain ⟨nq, HNQ⟩ : ∃ nq, Hid (qs.length = nq) := ⟨_, Lib.hid rfl⟩
      rw [HNQ.out] at HPK hqc hcell
      have HC : Hid (∀ j v, [Value.int .i64 kind, .slice As nq cs, .int .i64 kz][j]? = some v → wr.cell? ((ad.add (i * 3)).add j) = some v) := Lib.hid hcell
      clear hcell hpk hsi
      go_upto_region 11 with (refine wpList_load_at rfl 48 _ rfl _ rfl [.int .i64 kind, .slice As nq cs, .int .i64 kz] _ HC.out Try.underlying48 rfl (by kernel_rfl) ?_)
      have HP1 : Hid (Pair w (wr.alloc (.cells #[.int .i64 kind, .slice As nq cs, .int .i64 kz] 48)) va vsa ps vb vsb ps) := Lib.hid (HP.out.alloc _)
      have HX : Hid ((wr.alloc (.cells #[.int .i64 kind, .slice As nq cs, .int .i64 kz] 48)).rangeAt wr.heap.size 0 [.int .i64 kind, .slice As nq cs, .int .i64 kz] ∧ wr.heap.size < (wr.alloc (.cells #[.int .i64 kind, .slice As nq cs, .int .i64 kz] 48)).heap.size) := Lib.hid ⟨range_new wr [.int .i64 kind, .slice As nq cs, .int .i64 kz] _, by rw [alloc_size]; omega⟩
      have HNF : Hid (∀ k, wr.heap.size ≤ k → ¬ foot w.heap.size va k) := Lib.hid fun k hk hf => by have := HP.out.fn_hi hf; omega
      have HMF : Hid (∀ k, wr.heap.size ≤ k → ¬ foot (w.heap.size + 1) vb k) := Lib.hid fun k hk hf => by have := HP.out.fm_hi hf; omega
      clear HC HP
      generalize (wr.alloc (.cells #[.int .i64 kind, .slice As nq cs, .int .i64 kz] 48)) = W1 at *
      generalize wr.heap.size = b6 at *
      have x0 : W1.cell? ⟨b6, 0, none⟩ = some (.int .i64 kind) := HX.out.1 0 _ rfl
      have x1 : W1.cell? ⟨b6, 1, none⟩ = some (.slice As nq cs) := HX.out.1 1 _ rfl
      have x2 : W1.cell? ⟨b6, 2, none⟩ = some (.int .i64 kz) := HX.out.1 2 _ rfl
      have hb6 : b6 < W1.heap.size := HX.out.2
      by_cases h100 : 100 < nq
      · have h1 : (100 : Int) < (nq : Int) := by omega
        go_wp2_with (go_at_call 8; refine (awake_any _).mono ?_; rintro e w' ⟨rfl, hb⟩)
        go_ret
        exact RetTrue.from HP1.out.below ⟨rfl, hb⟩
      have h1 : decide ((100 : Int) < (nq : Int)) = false := by simp; omega
      have hq100 : nq ≤ 1000 := by omega
      go_upto_block 2 with fail
      go_cut [7] from 30 to 154 (fun s7 wx => s7 = .bool true ∧ ∃ (va' : Value) (vsa' : List PkV) (vb' : Value) (vsb' : List PkV) (ps' : List Pk), Hid (Good ps') ∧ Hid (Pair w wx va' vsa' ps' vb' vsb' ps'))
      case first =>
        -- SWITCH
        have hways : kind = 1 ∨ ((kind == 1) = false ∧ (kind = 2 ∨ ((kind == 2) = false ∧ (kind = 3 ∨ ((kind == 3) = false ∧ (kind = 4 ∨ ((kind == 4) = false ∧ (kind = 5 ∨ ((kind == 5) = false ∧ (kind = 6 ∨ (kind == 6) = false)))))))))) := by
          by_cases e1 : kind = 1
          · exact .inl e1
          refine .inr ⟨by simpa using e1, ?_⟩
          by_cases e2 : kind = 2
          · exact .inl e2
          refine .inr ⟨by simpa using e2, ?_⟩
          by_cases e3 : kind = 3
          · exact .inl e3
          refine .inr ⟨by simpa using e3, ?_⟩
          by_cases e4 : kind = 4
          · exact .inl e4
          refine .inr ⟨by simpa using e4, ?_⟩
          by_cases e5 : kind = 5
          · exact .inl e5
          refine .inr ⟨by simpa using e5, ?_⟩
          by_cases e6 : kind = 6
          · exact .inl e6
          exact .inr (by simpa using e6)
        have hqq : qs.length ≤ 1000 := by rw [HNQ.out]; exact hq100
        rcases hways with rfl | ⟨k1, rfl | ⟨k2, rfl | ⟨k3, rfl | ⟨k4, rfl | ⟨k5, rfl | k6⟩⟩⟩⟩⟩
        · -- [[A
          go_upto_region 16 with fail
          have HPd : Hid (Pair w W1.drew va vsa ps vb vsb ps) := Lib.hid HP1.out.drew
          clear HP1
          go_region_held3 (fun w' => w'.cell? ⟨b6, 1, none⟩ = some (.slice As nq cs)) (first | assumption | exact x1) (first
            | (go_at_call 9; ((with_reducible refine (c_send HPd.out HG.out HPK.out hqq).mono ?_); rintro e w2 ⟨rfl, va1, vsva1, hp2, hk2⟩; have HPn := Lib.hid hp2; have xn : w2.cell? ⟨b6, 1, none⟩ = some (.slice As nq cs) := (hk2.cell (a := ⟨b6, 1, none⟩) hb6 (HNF.out _ (Nat.le_refl _))).trans x1; have hbn : b6 < w2.heap.size := Nat.lt_of_lt_of_le hb6 hk2.size; clear hp2 hk2))
            | (go_at_call 17; ((with_reducible refine (c_rsend HPn.out HG.out HPK.out hqq).mono ?_); rintro e w3 ⟨rfl, vb1, vsvb1, hp2, hk2⟩; have HPF := Lib.hid hp2; have xf : w3.cell? ⟨b6, 1, none⟩ = some (.slice As nq cs) := (hk2.cell (a := ⟨b6, 1, none⟩) hbn (HMF.out _ (Nat.le_refl _))).trans xn; have hbf : b6 < w3.heap.size := Nat.lt_of_lt_of_le hbn hk2.size; clear hp2 hk2))
            | (go_at_call 17; ((with_reducible refine (c_rsend HPd.out HG.out HPK.out hqq).mono ?_); rintro e w2 ⟨rfl, vb1, vsvb1, hp2, hk2⟩; have HPm := Lib.hid hp2; have xm : w2.cell? ⟨b6, 1, none⟩ = some (.slice As nq cs) := (hk2.cell (a := ⟨b6, 1, none⟩) hb6 (HMF.out _ (Nat.le_refl _))).trans x1; have hbm : b6 < w2.heap.size := Nat.lt_of_lt_of_le hb6 hk2.size; clear hp2 hk2))
            | (go_at_call 9; ((with_reducible refine (c_send HPm.out HG.out HPK.out hqq).mono ?_); rintro e w3 ⟨rfl, va1, vsva1, hp2, hk2⟩; have HPF := Lib.hid hp2; have xf : w3.cell? ⟨b6, 1, none⟩ = some (.slice As nq cs) := (hk2.cell (a := ⟨b6, 1, none⟩) hbm (HNF.out _ (Nat.le_refl _))).trans xm; have hbf : b6 < w3.heap.size := Nat.lt_of_lt_of_le hbm hk2.size; clear hp2 hk2)))
          all_goals go_wp2_with fail
          all_goals go_meet
          all_goals exact ⟨by simp, _, _, _, _, _, Lib.hid (good_send _ _ HG.out), HPF⟩
          -- ]]A
        · -- [[B
          obtain ⟨p, HPK2⟩ : ∃ p, Hid (pkAt ps kz = p) := ⟨_, Lib.hid rfl⟩
          obtain ⟨ob, HOB⟩ : ∃ ob, Hid (p.isSome = ob) := ⟨_, Lib.hid rfl⟩
          obtain ⟨⟨f, t, b⟩, HPO⟩ : ∃ q, Hid (pkOr p = q) := ⟨_, Lib.hid rfl⟩
          obtain ⟨bl, HBL⟩ : ∃ bl, Hid (b.length = bl) := ⟨_, Lib.hid rfl⟩
          have hbl : bl ≤ 131072 := by
            have h1 := HPK2.out
            have h2 := HPO.out
            rw [← HBL.out]
            cases p with
            | none => injection h2 with _ _ h2; rw [← h2]; simp
            | some q =>
              have : q = ⟨f, t, b⟩ := h2
              subst this
              unfold pkAt at h1
              split at h1
              · cases h1
              · exact HG.out.2 _ (List.mem_of_getElem? h1)
          have HPd := HP1
          have HD := Lib.hid (c_deliver HP1.out HG.out kz)
          rw [HPK2.out] at HD
          unfold RetAt at HD
          rw [HOB.out, HPO.out] at HD
          simp only [HBL.out] at HD
          clear HP1
          go_upto_region 19 with (go_at_call 11; ((with_reducible refine HD.out.mono ?_); rintro e w2 ⟨A2, c2, rfl, ho2, va1, vsa1, hp2, hk2⟩))
          have HW3 : Hid (Pair w (w2.alloc (.cells #[.int .i64 f, .int .i64 t, .slice A2 bl c2] 31)) va1 vsa1 (delAt ps kz) vb vsb ps ∧ (w2.alloc (.cells #[.int .i64 f, .int .i64 t, .slice A2 bl c2] 31)).rangeAt w2.heap.size 0 [.int .i64 f, .int .i64 t, .slice A2 bl c2] ∧ (w2.alloc (.cells #[.int .i64 f, .int .i64 t, .slice A2 bl c2] 31)).ownsRow 0 5 1 (.slice A2 bl c2) bl (bc b) ∧ (w2.alloc (.cells #[.int .i64 f, .int .i64 t, .slice A2 bl c2] 31)).cell? ⟨b6, 2, none⟩ = some (.int .i64 kz) ∧ w2.heap.size < (w2.alloc (.cells #[.int .i64 f, .int .i64 t, .slice A2 bl c2] 31)).heap.size ∧ b6 < w2.heap.size) := Lib.hid (by
            have hp := hp2
            have hk := hk2
            exact ⟨hp.alloc _, range_new w2 [.int .i64 f, .int .i64 t, .slice A2 bl c2] _, ho2.kept (World.grownBy_alloc w2 _ none) (own_or _), (World.cell?_alloc_lt _ _ _ (Nat.lt_of_lt_of_le hb6 hk.size)).trans ((hk.cell (a := ⟨b6, 2, none⟩) hb6 (HNF.out _ (Nat.le_refl _))).trans x2), by rw [alloc_size]; omega, Nat.lt_of_lt_of_le hb6 hk.size⟩)
          clear ho2 HD HPd
          generalize (w2.alloc (.cells #[.int .i64 f, .int .i64 t, .slice A2 bl c2] 31)) = W3 at *
          generalize w2.heap.size = b8 at *
          have HP3 := Lib.hid HW3.out.1
          have x23 : W3.cell? ⟨b6, 2, none⟩ = some (.int .i64 kz) := HW3.out.2.2.2.1
          have HE := Lib.hid (c_rdeliver HP3.out HG.out kz)
          rw [HPK2.out] at HE
          unfold RetAt at HE
          rw [HOB.out, HPO.out] at HE
          simp only [HBL.out] at HE
          go_upto_region 20 with (go_at_call 18; ((with_reducible refine HE.out.mono ?_); rintro e w4 ⟨A4, c4, rfl, ho4, vb1, vsb1, hp4, hk4⟩))
          have HW5 : Hid (Pair w (w4.alloc (.cells #[.int .i64 f, .int .i64 t, .slice A4 bl c4] 31)) va1 vsa1 (delAt ps kz) vb1 vsb1 (delAt ps kz) ∧ (w4.alloc (.cells #[.int .i64 f, .int .i64 t, .slice A4 bl c4] 31)).rangeAt b8 0 [.int .i64 f, .int .i64 t, .slice A2 bl c2] ∧ (w4.alloc (.cells #[.int .i64 f, .int .i64 t, .slice A4 bl c4] 31)).rangeAt w4.heap.size 0 [.int .i64 f, .int .i64 t, .slice A4 bl c4] ∧ (w4.alloc (.cells #[.int .i64 f, .int .i64 t, .slice A4 bl c4] 31)).ownsRow 0 5 1 (.slice A2 bl c2) bl (bc b) ∧ (w4.alloc (.cells #[.int .i64 f, .int .i64 t, .slice A4 bl c4] 31)).ownsRow 0 5 1 (.slice A4 bl c4) bl (bc b)) := Lib.hid (by
            have hp := hp4
            have hk := hk4
            exact ⟨hp.alloc _, World.rangeAt_alloc (kept_range hk HW3.out.2.1 HW3.out.2.2.2.2.1 (HMF.out _ (by have := HW3.out.2.2.2.2.2; omega))) _, range_new w4 [.int .i64 f, .int .i64 t, .slice A4 bl c4] _, (HP3.out.own_m hk HW3.out.2.2.1).kept (World.grownBy_alloc w4 _ none) (own_or _), ho4.kept (World.grownBy_alloc w4 _ none) (own_or _)⟩)
          clear ho4 HE HP3 HW3
          generalize (w4.alloc (.cells #[.int .i64 f, .int .i64 t, .slice A4 bl c4] 31)) = W5 at *
          generalize w4.heap.size = b10 at *
          have HAL := Lib.hid (alike_same W5 f t A2 A4 bl c2 c4 W5.heap.size W5.heap.size b (Reads.of_own HW5.out.2.2.2.1) (Nat.le_refl _) (Reads.of_own HW5.out.2.2.2.2) (Nat.le_refl _) (by simp [maxLen]; omega))
          go_wp2_with (first
            | (refine wpList_unguard rfl ?_)
            | (refine wpList_load_mid rfl 31 _ rfl b8 0 rfl [.int .i64 f, .int .i64 t, .slice A2 bl c2] _ HW5.out.2.1 Try.underlying31 rfl (by kernel_rfl) ?_)
            | (refine wpList_load_mid rfl 31 _ rfl b10 0 rfl [.int .i64 f, .int .i64 t, .slice A4 bl c4] _ HW5.out.2.2.1 Try.underlying31 rfl (by kernel_rfl) ?_)
            | (go_at_call 19; ((with_reducible refine HAL.out.mono ?_); rintro e w6 ⟨rfl, hb6'⟩)))
          go_meet
          exact ⟨by simp, _, _, _, _, _, Lib.hid (good_del HG.out kz), Lib.hid (HW5.out.1.grow hb6')⟩
          -- ]]B
        · -- [[C
          have HE := Lib.hid (c_rdeliver HP1.out HG.out kz)
          unfold RetAt at HE
          obtain ⟨ob, HOB⟩ : ∃ ob, Hid ((pkAt ps kz).isSome = ob) := ⟨_, Lib.hid rfl⟩
          obtain ⟨⟨f, t, b⟩, HPO⟩ : ∃ q, Hid (pkOr (pkAt ps kz) = q) := ⟨_, Lib.hid rfl⟩
          obtain ⟨bl, HBL⟩ : ∃ bl, Hid (b.length = bl) := ⟨_, Lib.hid rfl⟩
          rw [HOB.out, HPO.out] at HE
          simp only [HBL.out] at HE
          go_upto_region 23 with (go_at_call 18; ((with_reducible refine HE.out.mono ?_); rintro e w2 ⟨A2, c2, rfl, ho2, vb1, vsb1, hp2, hk2⟩))
          have HW3 : Hid (Pair w (w2.alloc (.cells #[.int .i64 f, .int .i64 t, .slice A2 bl c2] 31)) va vsa ps vb1 vsb1 (delAt ps kz) ∧ (w2.alloc (.cells #[.int .i64 f, .int .i64 t, .slice A2 bl c2] 31)).cell? ⟨b6, 2, none⟩ = some (.int .i64 kz)) := Lib.hid ⟨hp2.alloc _, (World.cell?_alloc_lt _ _ _ (Nat.lt_of_lt_of_le hb6 hk2.size)).trans ((hk2.cell (a := ⟨b6, 2, none⟩) hb6 (HMF.out _ (Nat.le_refl _))).trans x2)⟩
          clear ho2 hp2 hk2 HE HP1
          generalize (w2.alloc (.cells #[.int .i64 f, .int .i64 t, .slice A2 bl c2] 31)) = W3 at *
          have x23 : W3.cell? ⟨b6, 2, none⟩ = some (.int .i64 kz) := HW3.out.2
          have HD := Lib.hid (c_drop HW3.out.1 HG.out kz)
          rw [HOB.out] at HD
          go_wp2_with (go_at_call 20; ((with_reducible refine HD.out.mono ?_); rintro e w4 ⟨rfl, va1, vsa1, hp4, hk4⟩))
          go_meet
          exact ⟨by simp, _, _, _, _, _, Lib.hid (good_del HG.out kz), Lib.hid hp4⟩
          -- ]]C
        · -- [[D
          go_upto_region 25 with fail
          have HPd : Hid (Pair w W1.drew va vsa ps vb vsb ps) := Lib.hid HP1.out.drew
          clear HP1
          go_region_held3 (fun w' => w'.cell? ⟨b6, 2, none⟩ = some (.int .i64 kz)) (first | assumption | exact x2) (first
            | (go_at_call 14; ((with_reducible refine (c_twice HPd.out HG.out kz).mono ?_); rintro e w2 ⟨rfl, va1, vsva1, hp2, hk2⟩; have HPn := Lib.hid hp2; have xn : w2.cell? ⟨b6, 2, none⟩ = some (.int .i64 kz) := (hk2.cell (a := ⟨b6, 2, none⟩) hb6 (HNF.out _ (Nat.le_refl _))).trans x2; have hbn : b6 < w2.heap.size := Nat.lt_of_lt_of_le hb6 hk2.size; clear hp2 hk2))
            | (go_at_call 21; ((with_reducible refine (c_rtwice HPn.out HG.out kz).mono ?_); rintro e w3 ⟨rfl, vb1, vsvb1, hp2, hk2⟩; have HPF := Lib.hid hp2; have xf : w3.cell? ⟨b6, 2, none⟩ = some (.int .i64 kz) := (hk2.cell (a := ⟨b6, 2, none⟩) hbn (HMF.out _ (Nat.le_refl _))).trans xn; have hbf : b6 < w3.heap.size := Nat.lt_of_lt_of_le hbn hk2.size; clear hp2 hk2))
            | (go_at_call 21; ((with_reducible refine (c_rtwice HPd.out HG.out kz).mono ?_); rintro e w2 ⟨rfl, vb1, vsvb1, hp2, hk2⟩; have HPm := Lib.hid hp2; have xm : w2.cell? ⟨b6, 2, none⟩ = some (.int .i64 kz) := (hk2.cell (a := ⟨b6, 2, none⟩) hb6 (HMF.out _ (Nat.le_refl _))).trans x2; have hbm : b6 < w2.heap.size := Nat.lt_of_lt_of_le hb6 hk2.size; clear hp2 hk2))
            | (go_at_call 14; ((with_reducible refine (c_twice HPm.out HG.out kz).mono ?_); rintro e w3 ⟨rfl, va1, vsva1, hp2, hk2⟩; have HPF := Lib.hid hp2; have xf : w3.cell? ⟨b6, 2, none⟩ = some (.int .i64 kz) := (hk2.cell (a := ⟨b6, 2, none⟩) hbm (HNF.out _ (Nat.le_refl _))).trans xm; have hbf : b6 < w3.heap.size := Nat.lt_of_lt_of_le hbm hk2.size; clear hp2 hk2)))
          all_goals go_wp2_with fail
          all_goals go_meet
          all_goals exact ⟨by simp, _, _, _, _, _, Lib.hid (good_tw HG.out kz), HPF⟩
          -- ]]D
        · -- [[E
          go_upto_region 27 with fail
          have HPd : Hid (Pair w W1.drew va vsa ps vb vsb ps) := Lib.hid HP1.out.drew
          clear HP1
          go_region_held3 (fun w' => w'.cell? ⟨b6, 2, none⟩ = some (.int .i64 kz)) (first | assumption | exact x2) (first
            | (go_at_call 15; ((with_reducible refine (c_clear HPd.out HG.out kz).mono ?_); rintro e w2 ⟨rfl, va1, vsva1, hp2, hk2⟩; have HPn := Lib.hid hp2; have xn : w2.cell? ⟨b6, 2, none⟩ = some (.int .i64 kz) := (hk2.cell (a := ⟨b6, 2, none⟩) hb6 (HNF.out _ (Nat.le_refl _))).trans x2; have hbn : b6 < w2.heap.size := Nat.lt_of_lt_of_le hb6 hk2.size; clear hp2 hk2))
            | (go_at_call 22; ((with_reducible refine (c_rclear HPn.out HG.out kz).mono ?_); rintro e w3 ⟨rfl, vb1, vsvb1, hp2, hk2⟩; have HPF := Lib.hid hp2; have xf : w3.cell? ⟨b6, 2, none⟩ = some (.int .i64 kz) := (hk2.cell (a := ⟨b6, 2, none⟩) hbn (HMF.out _ (Nat.le_refl _))).trans xn; have hbf : b6 < w3.heap.size := Nat.lt_of_lt_of_le hbn hk2.size; clear hp2 hk2))
            | (go_at_call 22; ((with_reducible refine (c_rclear HPd.out HG.out kz).mono ?_); rintro e w2 ⟨rfl, vb1, vsvb1, hp2, hk2⟩; have HPm := Lib.hid hp2; have xm : w2.cell? ⟨b6, 2, none⟩ = some (.int .i64 kz) := (hk2.cell (a := ⟨b6, 2, none⟩) hb6 (HMF.out _ (Nat.le_refl _))).trans x2; have hbm : b6 < w2.heap.size := Nat.lt_of_lt_of_le hb6 hk2.size; clear hp2 hk2))
            | (go_at_call 15; ((with_reducible refine (c_clear HPm.out HG.out kz).mono ?_); rintro e w3 ⟨rfl, va1, vsva1, hp2, hk2⟩; have HPF := Lib.hid hp2; have xf : w3.cell? ⟨b6, 2, none⟩ = some (.int .i64 kz) := (hk2.cell (a := ⟨b6, 2, none⟩) hbm (HNF.out _ (Nat.le_refl _))).trans xm; have hbf : b6 < w3.heap.size := Nat.lt_of_lt_of_le hbm hk2.size; clear hp2 hk2)))
          all_goals go_wp2_with fail
          all_goals go_meet
          all_goals exact ⟨by simp, _, _, _, _, _, Lib.hid (good_sub HG.out List.filter_sublist), HPF⟩
          -- ]]E
        · -- [[F
          obtain ⟨p, HPK2⟩ : ∃ p, Hid (pkAt ps kz = p) := ⟨_, Lib.hid rfl⟩
          obtain ⟨ob, HOB⟩ : ∃ ob, Hid (p.isSome = ob) := ⟨_, Lib.hid rfl⟩
          obtain ⟨⟨f, t, b⟩, HPO⟩ : ∃ q, Hid (pkOr p = q) := ⟨_, Lib.hid rfl⟩
          obtain ⟨bl, HBL⟩ : ∃ bl, Hid (b.length = bl) := ⟨_, Lib.hid rfl⟩
          have hbl : bl ≤ 131072 := by
            have h1 := HPK2.out
            have h2 := HPO.out
            rw [← HBL.out]
            cases p with
            | none => injection h2 with _ _ h2; rw [← h2]; simp
            | some q =>
              have : q = ⟨f, t, b⟩ := h2
              subst this
              unfold pkAt at h1
              split at h1
              · cases h1
              · exact HG.out.2 _ (List.mem_of_getElem? h1)
          have HPd := HP1
          have HD := Lib.hid (c_peek HP1.out HG.out kz)
          rw [HPK2.out] at HD
          unfold RetAt at HD
          rw [HOB.out, HPO.out] at HD
          simp only [HBL.out] at HD
          clear HP1
          go_upto_region 30 with (go_at_call 16; ((with_reducible refine HD.out.mono ?_); rintro e w2 ⟨A2, c2, rfl, ho2, hb2⟩))
          have HW3 : Hid (Pair w (w2.alloc (.cells #[.int .i64 f, .int .i64 t, .slice A2 bl c2] 31)) va vsa ps vb vsb ps ∧ (w2.alloc (.cells #[.int .i64 f, .int .i64 t, .slice A2 bl c2] 31)).rangeAt w2.heap.size 0 [.int .i64 f, .int .i64 t, .slice A2 bl c2] ∧ (w2.alloc (.cells #[.int .i64 f, .int .i64 t, .slice A2 bl c2] 31)).ownsRow 0 5 1 (.slice A2 bl c2) bl (bc b) ∧ (w2.alloc (.cells #[.int .i64 f, .int .i64 t, .slice A2 bl c2] 31)).cell? ⟨b6, 2, none⟩ = some (.int .i64 kz) ∧ w2.heap.size < (w2.alloc (.cells #[.int .i64 f, .int .i64 t, .slice A2 bl c2] 31)).heap.size ∧ b6 < w2.heap.size) := Lib.hid (by
            have hp := HPd.out.grow hb2
            have hk := (Kept.of_below hb2 : Kept (foot w.heap.size va) W1 w2)
            exact ⟨hp.alloc _, range_new w2 [.int .i64 f, .int .i64 t, .slice A2 bl c2] _, ho2.kept (World.grownBy_alloc w2 _ none) (own_or _), (World.cell?_alloc_lt _ _ _ (Nat.lt_of_lt_of_le hb6 hk.size)).trans ((hk.cell (a := ⟨b6, 2, none⟩) hb6 (HNF.out _ (Nat.le_refl _))).trans x2), by rw [alloc_size]; omega, Nat.lt_of_lt_of_le hb6 hk.size⟩)
          clear ho2 HD HPd
          generalize (w2.alloc (.cells #[.int .i64 f, .int .i64 t, .slice A2 bl c2] 31)) = W3 at *
          generalize w2.heap.size = b8 at *
          have HP3 := Lib.hid HW3.out.1
          have x23 : W3.cell? ⟨b6, 2, none⟩ = some (.int .i64 kz) := HW3.out.2.2.2.1
          have HE := Lib.hid (c_rpeek HP3.out HG.out kz)
          rw [HPK2.out] at HE
          unfold RetAt at HE
          rw [HOB.out, HPO.out] at HE
          simp only [HBL.out] at HE
          go_upto_region 31 with (go_at_call 23; ((with_reducible refine HE.out.mono ?_); rintro e w4 ⟨A4, c4, rfl, ho4, hb4⟩))
          have HW5 : Hid (Pair w (w4.alloc (.cells #[.int .i64 f, .int .i64 t, .slice A4 bl c4] 31)) va vsa ps vb vsb ps ∧ (w4.alloc (.cells #[.int .i64 f, .int .i64 t, .slice A4 bl c4] 31)).rangeAt b8 0 [.int .i64 f, .int .i64 t, .slice A2 bl c2] ∧ (w4.alloc (.cells #[.int .i64 f, .int .i64 t, .slice A4 bl c4] 31)).rangeAt w4.heap.size 0 [.int .i64 f, .int .i64 t, .slice A4 bl c4] ∧ (w4.alloc (.cells #[.int .i64 f, .int .i64 t, .slice A4 bl c4] 31)).ownsRow 0 5 1 (.slice A2 bl c2) bl (bc b) ∧ (w4.alloc (.cells #[.int .i64 f, .int .i64 t, .slice A4 bl c4] 31)).ownsRow 0 5 1 (.slice A4 bl c4) bl (bc b)) := Lib.hid (by
            have hp := HP3.out.grow hb4
            have hk := (Kept.of_below hb4 : Kept (foot (w.heap.size + 1) vb) W3 w4)
            exact ⟨hp.alloc _, World.rangeAt_alloc (kept_range hk HW3.out.2.1 HW3.out.2.2.2.2.1 (HMF.out _ (by have := HW3.out.2.2.2.2.2; omega))) _, range_new w4 [.int .i64 f, .int .i64 t, .slice A4 bl c4] _, (HP3.out.own_m hk HW3.out.2.2.1).kept (World.grownBy_alloc w4 _ none) (own_or _), ho4.kept (World.grownBy_alloc w4 _ none) (own_or _)⟩)
          clear ho4 HE HP3 HW3
          generalize (w4.alloc (.cells #[.int .i64 f, .int .i64 t, .slice A4 bl c4] 31)) = W5 at *
          generalize w4.heap.size = b10 at *
          have HAL := Lib.hid (alike_same W5 f t A2 A4 bl c2 c4 W5.heap.size W5.heap.size b (Reads.of_own HW5.out.2.2.2.1) (Nat.le_refl _) (Reads.of_own HW5.out.2.2.2.2) (Nat.le_refl _) (by simp [maxLen]; omega))
          go_wp2_with (first
            | (refine wpList_unguard rfl ?_)
            | (refine wpList_load_mid rfl 31 _ rfl b8 0 rfl [.int .i64 f, .int .i64 t, .slice A2 bl c2] _ HW5.out.2.1 Try.underlying31 rfl (by kernel_rfl) ?_)
            | (refine wpList_load_mid rfl 31 _ rfl b10 0 rfl [.int .i64 f, .int .i64 t, .slice A4 bl c4] _ HW5.out.2.2.1 Try.underlying31 rfl (by kernel_rfl) ?_)
            | (go_at_call 19; ((with_reducible refine HAL.out.mono ?_); rintro e w6 ⟨rfl, hb6'⟩)))
          go_meet
          exact ⟨by simp, _, _, _, _, _, Lib.hid (HG.out), Lib.hid (HW5.out.1.grow hb6')⟩
          -- ]]F
        · go_wp2_with fail
          go_meet
          exact ⟨rfl, _, _, _, _, _, HG, HP1⟩
        -- /SWITCH
      case rest =>
        obtain ⟨rfl, va', vsa', vb', vsb', ps', HG', HP'⟩ := hcut
        obtain ⟨N, HNN⟩ : ∃ N, Hid (ps'.length = N) := ⟨_, Lib.hid rfl⟩
        have hN200 : N ≤ 200 := by have := HG'.out.1; have := HNN.out; omega
        obtain ⟨Am, cm, hvm, _, _, _⟩ := Owns.form (Or.inl HP'.out.m.row)
        rw [HNN.out] at hvm
        have ca : wc.cell? ⟨w.heap.size + 1, 0, none⟩ = some (.slice Am N cm) := by rw [cell_of_one HP'.out.m.cell, hvm]
        have HLN : Hid (∀ k, Calls Try.prog 12 #[.pointer (some ⟨w.heap.size, 0, none⟩)] (wc.drewN k) fun e W1 => e = .returned (.int .i64 N) ∧ wc.drewN k = W1) := Lib.hid fun k => by have := c_len (HP'.out.drewN k) HG'.out; rw [HNN.out] at this; exact this
        go_upto_region 32 with fail
        refine wp_region_quiet_lit (by kernel_rfl) (by kernel_rfl) ?_
        repeat (go_big_quiet_step ((go_at_call 12; first | exact quiet_left (HLN.out _) | exact quiet_add_left (HLN.out _))))
        refine wpQuiet_nil ?_
        rintro _ ⟨nq', rfl⟩
        go_wp2
        go_roundw
        case rel => exact ⟨i + 1, va', vsa', vb', vsb', ps', by omega, by go_num, HG', Lib.hid (HP'.out.drewN _)⟩
        case measure => simp [intOf]; omega
    · obtain rfl : n = i := by omega
      have hnn : ¬ n < n := by omega
      obtain ⟨N, HNN⟩ : ∃ N, Hid (ps.length = N) := ⟨_, Lib.hid rfl⟩
      have hN200 : N ≤ 200 := by have := HG.out.1; have := HNN.out; omega
      obtain ⟨Am, cm, hvm, hcm, _, _⟩ := Owns.form (Or.inl HP.out.m.row)
      rw [HNN.out] at hvm hcm
      subst hvm
      have HCM := Lib.hid hcm
      clear hcm
      go_wp2
      go_loopw [18] (fun s18 ww => ∃ (j : Nat), j ≤ N ∧ s18 = .int .i64 j ∧ Hid (Pair w ww va vsa ps (.slice Am N cm) vsb ps)) (fun s _ => N - (intOf s).toNat)
      case atStart => exact ⟨0, Nat.zero_le _, rfl, HP⟩
      case round =>
        clear HP
        obtain ⟨j, hj, rfl, HP⟩ := hrel
        have ca : wr.cell? ⟨w.heap.size + 1, 0, none⟩ = some (.slice Am N cm) := cell_of_one HP.out.m.cell
        by_cases hjn : j < N
        · -- [[G
          obtain ⟨p, hp⟩ : ∃ p, ps[j]? = some p := ⟨_, List.getElem?_eq_getElem (by have := HNN.out; omega)⟩
          have hpa : pkAt ps (j : Int) = some p := by simp [pkAt, hp]
          obtain ⟨x, hx⟩ : ∃ x, vsb[j]? = some x := ⟨_, List.getElem?_eq_getElem (by have := HP.out.m.len; have := HNN.out; omega)⟩
          have hbl := HG.out.2 p (List.mem_of_getElem? hp)
          obtain ⟨bl, HBL⟩ : ∃ bl, Hid (p.b.length = bl) := ⟨_, Lib.hid rfl⟩
          rw [HBL.out] at hbl
          have hrow := HP.out.m.row
          rw [HNN.out] at hrow
          obtain ⟨g, cm', e, _, _, hgb, hgl, hgo⟩ := own_head (Or.inl hrow) (by omega)
          injection e with e1 e2 e3
          subst e1 e3
          obtain ⟨pf, pt, po⟩ := HP.out.m.pks j x p hx hp
          obtain ⟨f, t, b⟩ := p
          obtain ⟨xf, xt, xv⟩ := x
          simp only at pf pt po
          subst pf pt
          obtain ⟨Ab, cb, hxv, _⟩ := Owns.form (Or.inl po)
          simp only at HBL
          rw [HBL.out] at po hxv
          subst hxv
          have HPO := Lib.hid po
          have HEL : Hid (wr.rangeAt g (j * 3) [.int .i64 xf, .int .i64 xt, .slice Ab bl cb]) := Lib.hid fun i u hu => (flat_own PkV.cells_length hgo hx i u hu).1
          have HD := Lib.hid (c_peek HP.out HG.out (j : Int))
          rw [hpa] at HD
          unfold RetAt pkOr at HD
          simp only [Option.getD, Option.isSome, HBL.out] at HD
          clear hp hpa hx hrow hgo po
          go_upto_region 38 with (go_at_call 16; ((with_reducible refine HD.out.mono ?_); rintro e w2 ⟨A2, c2, rfl, ho2, hb2⟩))
          have HW : Hid (Pair w (w2.alloc (.cells #[.int .i64 xf, .int .i64 xt, .slice A2 bl c2] 31)) va vsa ps (.slice (some ⟨g, 0, none⟩) N cm) vsb ps ∧ (w2.alloc (.cells #[.int .i64 xf, .int .i64 xt, .slice A2 bl c2] 31)).rangeAt w2.heap.size 0 [.int .i64 xf, .int .i64 xt, .slice A2 bl c2] ∧ (w2.alloc (.cells #[.int .i64 xf, .int .i64 xt, .slice A2 bl c2] 31)).rangeAt g (j * 3) [.int .i64 xf, .int .i64 xt, .slice Ab bl cb] ∧ (w2.alloc (.cells #[.int .i64 xf, .int .i64 xt, .slice A2 bl c2] 31)).ownsRow 0 5 1 (.slice A2 bl c2) bl (bc b) ∧ (w2.alloc (.cells #[.int .i64 xf, .int .i64 xt, .slice A2 bl c2] 31)).ownsRow 0 5 1 (.slice Ab bl cb) bl (bc b)) := Lib.hid
            ⟨(HP.out.grow hb2).alloc _, range_new w2 [.int .i64 xf, .int .i64 xt, .slice A2 bl c2] _, World.rangeAt_alloc (range_below_at HEL.out hb2 hgl) _, ho2.kept (World.grownBy_alloc w2 _ none) (own_or _), (own_below HPO.out hb2 (Nat.le_refl _)).kept (World.grownBy_alloc w2 _ none) (own_or _)⟩
          clear ho2 HD HP HPO HEL ca
          generalize (w2.alloc (.cells #[.int .i64 xf, .int .i64 xt, .slice A2 bl c2] 31)) = W3 at *
          generalize w2.heap.size = b19 at *
          have x0 : W3.cell? ⟨b19, 0, none⟩ = some (.int .i64 xf) := HW.out.2.1 0 _ rfl
          have x1 : W3.cell? ⟨b19, 1, none⟩ = some (.int .i64 xt) := HW.out.2.1 1 _ rfl
          have x2 : W3.cell? ⟨b19, 2, none⟩ = some (.slice A2 bl c2) := HW.out.2.1 2 _ rfl
          have y0 : W3.cell? ⟨g, j * 3, none⟩ = some (.int .i64 xf) := HW.out.2.2.1 0 _ rfl
          have y1 : W3.cell? ⟨g, j * 3 + 1, none⟩ = some (.int .i64 xt) := HW.out.2.2.1 1 _ rfl
          have y2 : W3.cell? ⟨g, j * 3 + 2, none⟩ = some (.slice Ab bl cb) := HW.out.2.2.1 2 _ rfl
          have ca : W3.cell? ⟨w.heap.size + 1, 0, none⟩ = some (.slice (some ⟨g, 0, none⟩) N cm) := cell_of_one HW.out.1.m.cell
          have HAL := Lib.hid (alike_same W3.drew xf xt A2 Ab bl c2 cb W3.heap.size W3.heap.size b (Reads.of_own HW.out.2.2.2.1) (Nat.le_refl _) (Reads.of_own HW.out.2.2.2.2) (Nat.le_refl _) (by simp [maxLen]; omega))
          have hS : W3.cell? ⟨b19, 0, none⟩ = some (.int .i64 xf) ∧ W3.cell? ⟨b19, 1, none⟩ = some (.int .i64 xt) ∧ W3.cell? ⟨b19, 2, none⟩ = some (.slice A2 bl c2) ∧ W3.cell? ⟨g, j * 3, none⟩ = some (.int .i64 xf) ∧ W3.cell? ⟨g, j * 3 + 1, none⟩ = some (.int .i64 xt) ∧ W3.cell? ⟨g, j * 3 + 2, none⟩ = some (.slice Ab bl cb) ∧ W3.cell? ⟨w.heap.size + 1, 0, none⟩ = some (.slice (some ⟨g, 0, none⟩) N cm) := ⟨x0, x1, x2, y0, y1, y2, ca⟩
          have HS3 := Lib.hid hS
          have HLT3 : Hid (b19 < W3.heap.size ∧ g < W3.heap.size ∧ w.heap.size + 1 < W3.heap.size) := Lib.hid ⟨World.block_lt_of_cell? W3 ⟨b19, 0, none⟩ x0, World.block_lt_of_cell? W3 ⟨g, j * 3, none⟩ y0, HW.out.1.m.lt⟩
          have HKP : Hid (∀ W, Below W3.heap.size W3 W → W.cell? ⟨b19, 0, none⟩ = some (.int .i64 xf) ∧ W.cell? ⟨b19, 1, none⟩ = some (.int .i64 xt) ∧ W.cell? ⟨b19, 2, none⟩ = some (.slice A2 bl c2) ∧ W.cell? ⟨g, j * 3, none⟩ = some (.int .i64 xf) ∧ W.cell? ⟨g, j * 3 + 1, none⟩ = some (.int .i64 xt) ∧ W.cell? ⟨g, j * 3 + 2, none⟩ = some (.slice Ab bl cb) ∧ W.cell? ⟨w.heap.size + 1, 0, none⟩ = some (.slice (some ⟨g, 0, none⟩) N cm)) := Lib.hid fun W hb => by
            obtain ⟨l1, l2, l3⟩ := HLT3.out
            obtain ⟨z0, z1, z2, z3, z4, z5, z6⟩ := HS3.out
            exact ⟨(hb.cell (p := ⟨b19, 0, none⟩) l1).trans z0, (hb.cell (p := ⟨b19, 1, none⟩) l1).trans z1, (hb.cell (p := ⟨b19, 2, none⟩) l1).trans z2, (hb.cell (p := ⟨g, j * 3, none⟩) l2).trans z3, (hb.cell (p := ⟨g, j * 3 + 1, none⟩) l2).trans z4, (hb.cell (p := ⟨g, j * 3 + 2, none⟩) l2).trans z5, (hb.cell (p := ⟨w.heap.size + 1, 0, none⟩) l3).trans z6⟩
          go_region_held3 (fun w' => w'.cell? ⟨b19, 0, none⟩ = some (.int .i64 xf) ∧ w'.cell? ⟨b19, 1, none⟩ = some (.int .i64 xt) ∧ w'.cell? ⟨b19, 2, none⟩ = some (.slice A2 bl c2) ∧ w'.cell? ⟨g, j * 3, none⟩ = some (.int .i64 xf) ∧ w'.cell? ⟨g, j * 3 + 1, none⟩ = some (.int .i64 xt) ∧ w'.cell? ⟨g, j * 3 + 2, none⟩ = some (.slice Ab bl cb) ∧ w'.cell? ⟨w.heap.size + 1, 0, none⟩ = some (.slice (some ⟨g, 0, none⟩) N cm)) (first | exact HKP.out _ HB6.out | exact HS3.out) (first | (go_at_call 19; ((with_reducible refine HAL.out.mono ?_); rintro e w6 ⟨rfl, hb6'⟩; have HB6 : Hid (Below W3.heap.size W3 w6) := Lib.hid ((Below.refl W3.heap.size W3).drew.trans hb6'); clear hb6')))
          go_wp2
          go_roundw
          case rel => exact ⟨j + 1, by omega, by go_num, Lib.hid (HW.out.1.grow HB6.out)⟩
          case measure => simp [intOf]; omega
          -- ]]G
        · obtain rfl : N = j := by omega
          have hjj : ¬ N < N := by omega
          go_wp2_with (go_at_call 8; refine (awake_any _).mono ?_; rintro e w' ⟨rfl, hb⟩)
          go_ret
          exact RetTrue.from HP.out.below ⟨rfl, hb⟩
end Go.Proofs.Ytlgkgmnnmlhaeaa
