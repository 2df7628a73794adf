import Derived.Test.YtlgkgmnnmlhaeaaNetK
namespace Go.Proofs.Ytlgkgmnnmlhaeaa
open Go.RowKit
set_option linter.unusedVariables false

theorem keep_succ {d : Int} {vs : List PkV} {j : Nat} {x : PkV} (h : vs[j]? = some x) : (vs.take (j + 1)).filter (keepB d) = (vs.take j).filter (keepB d) ++ if keepB d x then [x] else [] := by
  rw [List.take_add_one, h, Option.toList, List.filter_append]
  congr 1
  simp [List.filter_cons]

section
variable (B : Nat) (w : World) (a : Nat) (v : Value) (vs : List PkV) (ps : List Pk) (hN : RefAt B w a v vs ps) (hps : ps.length ≤ 200) (z : Int) (hz : z < 0 ∨ (ps.length : Int) ≤ z)
include hN hps hz
set_option maxRecDepth 100000 in
set_option maxHeartbeats 4000000 in
theorem rdeliver_none : Calls Try.prog 18 #[.pointer (some ⟨a, 0, none⟩), .int .i64 z] w (RetNone w) := by
  have HP : Hid (∀ W, Below w.heap.size w W → Calls Try.prog 23 #[.pointer (some ⟨a, 0, none⟩), .int .i64 z] W (RetNone W)) := Lib.hid fun W hb => rpeek_none B W a v vs ps (hN.grow hb) hps z hz
  clear hN hz
  go_enter Try.func18, Try.ntmps18
  go_upto_region 6 with (go_at_call 23; refine (HP.out _ ((Below.refl _ _).alloc (Nat.le_refl _) _)).mono ?_; rintro e w2 ⟨rfl, hb2⟩)
  have hsz : w.heap.size + 1 ≤ w2.heap.size := by have := hb2.size; rw [alloc_size] at this; omega
  have HT : Hid ((w2.alloc (.cells #[.int .i64 0, .int .i64 0, .slice none 0 0] 31)).there w.heap.size 0 3) := Lib.hid (World.there_alloc (there_below (HZ3 w) hb2 (by rw [alloc_size]; omega)) _)
  have HR : Hid ((w2.alloc (.cells #[.int .i64 0, .int .i64 0, .slice none 0 0] 31)).rangeAt w2.heap.size 0 [.int .i64 0, .int .i64 0, .slice none 0 0]) := Lib.hid (range_new w2 [.int .i64 0, .int .i64 0, .slice none 0 0] _)
  have HB : Hid (Below w.heap.size w (w2.alloc (.cells #[.int .i64 0, .int .i64 0, .slice none 0 0] 31))) := Lib.hid ((((Below.refl _ _).alloc (Nat.le_refl _) _).trans (hb2.mono (by rw [alloc_size]; omega))).alloc (by omega) _)
  clear hb2
  generalize (w2.alloc (.cells #[.int .i64 0, .int .i64 0, .slice none 0 0] 31)) = W3 at *
  generalize w2.heap.size = b6 at *
  go_wp2_with (first
    | (refine wpList_load_mid rfl 31 _ rfl b6 0 rfl [.int .i64 0, .int .i64 0, .slice none 0 0] _ HR.out Try.underlying31 rfl (by kernel_rfl) ?_)
    | (refine wpList_store_mid rfl 31 _ _ rfl w.heap.size 0 [.int .i64 0, .int .i64 0, .slice none 0 0].toArray rfl rfl HT.out (by kernel_rfl) (all_oneCell_toArray (pk3_one _ _ _ _ _)) ?_))
  refine ret_cell 4 5 31 rfl w.heap.size [.int .i64 0, .int .i64 0, .slice none 0 0] _ rfl (World.rangeAt_setCells_same _ _ _ _ HT.out) Try.underlying31 rfl (by kernel_rfl) rfl ?_
  exact ⟨rfl, Below.setCells _ (Nat.le_refl _) _ _ HB.out⟩
set_option maxRecDepth 100000 in
theorem rtwice_none : Calls Try.prog 21 #[.pointer (some ⟨a, 0, none⟩), .int .i64 z] w (RetB w false) := by
  have HD := Lib.hid (rpeek_none B w a v vs ps hN hps z hz)
  clear hN hz
  go_enter Try.func21, Try.ntmps21
  go_wp2_with (first
    | (refine wpList_unguard rfl ?_)
    | (go_at_call 23; refine HD.out.mono ?_; rintro e w2 ⟨rfl, hb2⟩))
  go_ret
  exact ⟨rfl, hb2.alloc hb2.size _⟩
end

section
variable (B : Nat) (w : World) (a : Nat) (v : Value) (vs : List PkV) (ps : List Pk) (hN : RefAt B w a v vs ps) (hps : ps.length ≤ 200)
include hN hps
set_option maxRecDepth 100000 in
set_option maxHeartbeats 4000000 in
theorem rtwice_some (hB : B ≤ w.heap.size) (k : Nat) (p : Pk) (hk : ps[k]? = some p) (hpl : p.b.length ≤ 131072) : Calls Try.prog 21 #[.pointer (some ⟨a, 0, none⟩), .int .i64 k] w fun e w' => e = .returned (.bool (mayL ps.length p)) ∧ RefNow B w a v (sendL ps [p]) w' := by
  have HP := Lib.hid (rpeek_some B w a v vs ps hN hps k p hk)
  have HN := Lib.hid hN
  obtain ⟨r, HR⟩ : ∃ r, Hid (mayL ps.length p = r) := ⟨_, Lib.hid rfl⟩
  have HSL : Hid ((sendL ps [p]).length - ps.length = if r then 1 else 0) := Lib.hid (by
    rw [sendL, HR.out]; cases r <;> simp [sendL])
  obtain ⟨f, t, b⟩ := p
  rw [HR.out]
  have HPL := Lib.hid hpl
  clear hN hk hpl
  go_enter Try.func21, Try.ntmps21
  go_upto_region 2 with (go_at_call 23; ((with_reducible refine HP.out.mono ?_); rintro e w2 ⟨A2, c2, rfl, ho2, hb2⟩))
  have hsz2 := hb2.size
  have HW : Hid (Below w.heap.size w (w2.alloc (.cells #[.int .i64 f, .int .i64 t, .slice A2 b.length c2] 31)) ∧ (w2.alloc (.cells #[.int .i64 f, .int .i64 t, .slice A2 b.length c2] 31)).rangeAt w2.heap.size 0 [.int .i64 f, .int .i64 t, .slice A2 b.length c2] ∧ (w2.alloc (.cells #[.int .i64 f, .int .i64 t, .slice A2 b.length c2] 31)).ownsRow 0 5 1 (.slice A2 b.length c2) b.length (bc b)) := Lib.hid
    ⟨hb2.alloc hb2.size _, range_new w2 [.int .i64 f, .int .i64 t, .slice A2 b.length c2] _, ho2.kept (World.grownBy_alloc w2 _ none) (own_or _)⟩
  clear ho2 hb2
  generalize (w2.alloc (.cells #[.int .i64 f, .int .i64 t, .slice A2 b.length c2] 31)) = W3 at *
  generalize w2.heap.size = b5 at *
  have HS : Hid (Calls Try.prog 17 #[.pointer (some ⟨a, 0, none⟩), .slice (some ⟨W3.heap.size, 0, none⟩) 1 1] (W3.alloc (.cells #[.int .i64 f, .int .i64 t, .slice A2 b.length c2] 31)) fun e w' =>
      e = .returned (.int .i64 (if r then 1 else 0)) ∧ RefNow B w a v (sendL ps [⟨f, t, b⟩]) w') := Lib.hid (by
    have hb4 : Below w.heap.size w (W3.alloc (.cells #[.int .i64 f, .int .i64 t, .slice A2 b.length c2] 31)) := HW.out.1.alloc HW.out.1.size _
    have r4 : (W3.alloc (.cells #[.int .i64 f, .int .i64 t, .slice A2 b.length c2] 31)).rangeAt W3.heap.size 0 [.int .i64 f, .int .i64 t, .slice A2 b.length c2] := range_new W3 [.int .i64 f, .int .i64 t, .slice A2 b.length c2] _
    have o4 : (W3.alloc (.cells #[.int .i64 f, .int .i64 t, .slice A2 b.length c2] 31)).ownsRow 0 5 1 (.slice A2 b.length c2) b.length (bc b) := HW.out.2.2.kept (World.grownBy_alloc W3 _ none) (own_or _)
    have s4 : (W3.alloc (.cells #[.int .i64 f, .int .i64 t, .slice A2 b.length c2] 31)).heap.size = W3.heap.size + 1 := alloc_size _ _
    have s3 := HW.out.1.size
    generalize (W3.alloc (.cells #[.int .i64 f, .int .i64 t, .slice A2 b.length c2] 31)) = W4 at *
    have n4 : RefAt B W4 a v vs ps := HN.out.grow hb4
    have hfoot : ∀ q, w.heap.size ≤ q → ¬ foot a v q := fun q hq hf => Or.elim hf (fun e => by have := HN.out.lt; omega) (fun e => by have := (HN.out.row.lt q e).2; omega)
    refine (rsend_any B W4 a v vs ps n4 (by omega) hps (some ⟨W3.heap.size, 0, none⟩) 1 1 [⟨f, t, .slice A2 b.length c2⟩] [⟨f, t, b⟩] (fun W' hk => ⟨?_, ?_⟩) rfl rfl (by omega)).mono ?_
    · exact reads_of_range (kept_range hk r4 (by omega) (hfoot _ (by omega))) rfl (by omega)
    · intro i u q h1 h2
      cases i with
      | zero =>
        simp at h1 h2
        subst h1 h2
        refine ⟨rfl, rfl, _, _, rfl, by have := HPL.out; simp only at this ⊢; omega, own_reads_in (hk.own o4 (fun g hg hf => ?_)) (fun g hg => (o4.lt g hg).2)⟩
        rcases hf with rfl | hf
        · exact own_apart_one o4 n4.cell (by decide) hg
        · exact own_apart o4 n4.row (by decide) hg hf
      | succ i => simp at h1
    · rintro e w' ⟨he, v', vs', h1, h2, h3⟩
      refine ⟨?_, v', vs', h1, (Kept.of_below hb4 : Kept (foot a v) w W4).trans h2 (fun _ _ h => h), fun g hg => ?_⟩
      · rw [he, HSL.out]; cases r <;> rfl
      · rcases h3 g hg with h | h
        · exact .inl h
        · right; omega)
  cases r
  all_goals
    go_wp2_with (first
      | (refine wpList_unguard rfl ?_)
      | (refine wpList_load_mid rfl 31 _ rfl b5 0 rfl [.int .i64 f, .int .i64 t, .slice A2 b.length c2] _ HW.out.2.1 Try.underlying31 rfl (by kernel_rfl) ?_)
      | (go_at_call 17; refine HS.out.mono ?_; rintro e w5 ⟨rfl, hn5⟩))
    go_ret
    exact ⟨rfl, hn5⟩

set_option maxRecDepth 100000 in
set_option maxHeartbeats 4000000 in
theorem rclear_any (hB : B ≤ w.heap.size) (d : Int) : Calls Try.prog 22 #[.pointer (some ⟨a, 0, none⟩), .int .i64 d] w fun e w' =>
    e = .returned (.int .i64 ((ps.length : Int) - ((ps.filter (fun p => !hitP d p)).length : Nat))) ∧ RefNow B w a v (ps.filter (fun p => !hitP d p)) w' := by
  obtain ⟨N, HNN⟩ : ∃ N, Hid (ps.length = N) := ⟨_, Lib.hid rfl⟩
  have hN200 : N ≤ 200 := by have := HNN.out; omega
  obtain ⟨hf1, hf2⟩ := filter_alike (d := d) vs ps hN.len (fun i x p h1 h2 => ⟨(hN.pks i x p h1 h2).f, (hN.pks i x p h1 h2).t⟩)
  have HF := Lib.hid (And.intro hf1 hf2)
  have HN := Lib.hid hN
  have HLV : Hid (vs.length = N) := Lib.hid (by rw [hN.len]; exact HNN.out)
  have HONE : Hid (∀ u ∈ pkCells vs, u.oneCell' = true) := Lib.hid hN.one
  obtain ⟨A0, c0, hv0, hc0, hm0, _⟩ := Owns.form (Or.inl hN.row)
  rw [HNN.out] at hv0 hc0
  have hal := hN.lt
  have HROW : Hid (w.ownsRow B 31 3 v N (pkCells vs)) := Lib.hid (by have := hN.row; rwa [HNN.out] at this)
  rw [HNN.out]
  clear hN hf1 hf2
  subst hv0
  go_enter Try.func22, Try.ntmps22
  go_wp2
  go_loopw [5, 6, 7] (fun lv cv iv wr => ∃ (j m st : Nat), j ≤ N ∧ iv = .int .i64 j ∧ cv = .int .i64 st ∧ Hid (((vs.take j).filter (keepB d)).length = m) ∧ st + m = j ∧ Hid (wr.ownsRow w.heap.size 31 3 lv m (pkCells ((vs.take j).filter (keepB d)))) ∧ Hid (Below w.heap.size w wr)) (fun _ _ k _ => N - (intOf k).toNat)
  case atStart => exact ⟨0, 0, 0, Nat.zero_le _, rfl, rfl, Lib.hid rfl, rfl, Lib.hid (World.ownsRow_nil _ _ _ _), Lib.hid (Below.refl _ _)⟩
  case round =>
    obtain ⟨j, m, st, hj, rfl, rfl, HM, hst, HO, HBW⟩ := hrel
    have HNR : Hid (RefAt B wr a (.slice A0 N c0) vs ps) := Lib.hid (HN.out.grow HBW.out)
    have ca : wr.cell? ⟨a, 0, none⟩ = some (.slice A0 N c0) := cell_of_one HNR.out.cell
    obtain ⟨Al, cl, rfl, hcl, hml, _⟩ := Owns.form (Or.inl HO.out)
    by_cases hlt : j < N
    · obtain ⟨g, c', e, _, _, hgb, hgl, hgo⟩ := own_head (Or.inl HROW.out) (by omega)
      injection e with e1 e2 e3
      subst e1 e3
      obtain ⟨x, hx⟩ : ∃ x, vs[j]? = some x := ⟨_, List.getElem?_eq_getElem (by rw [HLV.out]; exact hlt)⟩
      have hcl2 := flat_own PkV.cells_length hgo hx
      have HKS := Lib.hid (keep_succ (d := d) hx)
      have HX1 : Hid (∀ u ∈ x.cells, u.oneCell' = true) := Lib.hid fun u hu => HONE.out u (by rw [pkCells, List.mem_flatMap]; exact ⟨x, List.mem_of_getElem? hx, hu⟩)
      obtain ⟨f, t, xv⟩ := x
      have HG : Hid (wr.rangeAt g (j * 3) [.int .i64 f, .int .i64 t, xv]) := Lib.hid (range_below_at (fun i u hu => (hcl2 i u hu).1) HBW.out hgl)
      have x0 : wr.cell? ⟨g, j * 3, none⟩ = some (.int .i64 f) := HG.out 0 _ rfl
      have x1 : wr.cell? ⟨g, j * 3 + 1, none⟩ = some (.int .i64 t) := HG.out 1 _ rfl
      have hways : ((f == d) = true ∨ ((f == d) = false ∧ (t == d) = true)) ∧ keepB d ⟨f, t, xv⟩ = false ∨ (f == d) = false ∧ (t == d) = false ∧ keepB d ⟨f, t, xv⟩ = true := by
        by_cases h1 : f = d
        · left; exact ⟨.inl (by simpa using h1), by simp [keepB, hitB, h1]⟩
        · by_cases h2 : t = d
          · left; exact ⟨.inr ⟨by simpa using h1, by simpa using h2⟩, by simp [keepB, hitB, h2]⟩
          · right; exact ⟨by simpa using h1, by simpa using h2, by simp [keepB, hitB, h1, h2]⟩
      clear hx hcl2 hgo
      refine code_hide (fun Q0 HQ0 => ?_)
      rcases hways with ⟨hh, hk⟩ | ⟨e1, e2, hk⟩
      rotate_left 1
      · have HK := Lib.hid hk
        clear hk
        have HO1 : Hid ((wr.alloc (.cells #[.int .i64 f, .int .i64 t, xv] 31)).ownsRow w.heap.size 31 3 (.slice Al m cl) m (pkCells ((vs.take j).filter (keepB d)))) := Lib.hid (HO.out.kept (World.grownBy_alloc wr _ none) (own_or _))
        have hbs := HBW.out.size
        go_wp2_with (first
          | (refine wpList_unguard rfl ?_)
          | (refine wpList_load_mid rfl 31 _ rfl g (j * 3) rfl [.int .i64 f, .int .i64 t, xv] _ HG.out Try.underlying31 rfl (by kernel_rfl) ?_)
          | (at_builtin; refine app_pk _ rfl (.tmp 41) (.tmp 49) rfl w.heap.size _ m _ rfl HO1.out _ _ 1 _ [.int .i64 f, .int .i64 t, xv] rfl (reads_newS wr [.int .i64 f, .int .i64 t, xv] _ 3 1 rfl) HX1.out (by omega) (le_alloc hbs) ?_; intro v2 w2 ho2 hb2; have HO2 := Lib.hid ho2; have HB2 := Lib.hid hb2; obtain ⟨A2, c2, rfl, hc2, hm2, _⟩ := Owns.form (Or.inl ho2); clear ho2 hb2 hc2))
        refine hide_out HQ0 ?_
        go_step
        go_roundw
        case rel =>
          have hks := HKS.out
          rw [HK.out] at hks
          rw [if_pos rfl] at hks
          refine ⟨j + 1, m + 1, st, by omega, by go_num, by go_num, Lib.hid (by rw [hks, List.length_append, HM.out]; rfl), by omega, Lib.hid ?_, Lib.hid ((HBW.out.alloc HBW.out.size _).trans HB2.out)⟩
          rw [hks]
          have := HO2.out
          simpa [pkCells, PkV.cells] using this
        case measure => simp [intOf]; omega
      rcases hh with e1 | ⟨e1, e2⟩
      all_goals
        have HK := Lib.hid hk
        clear hk
        go_wp2_with (refine wpList_unguard rfl ?_)
        refine hide_out HQ0 ?_
        go_step
        go_roundw
        case rel =>
          have hks := HKS.out
          rw [HK.out] at hks
          rw [if_neg (by simp), List.append_nil] at hks
          exact ⟨j + 1, m, st + 1, by omega, by go_num, by go_num, Lib.hid (by rw [hks]; exact HM.out), by omega, Lib.hid (by rw [hks]; exact HO.out), HBW⟩
        case measure => simp [intOf]; omega
    · obtain rfl : N = j := by omega
      have fa : wr.frozen? ⟨a, 0, none⟩ = false := free_of_one HNR.out.cell
      have HT : Hid (vs.take N = vs) := Lib.hid (List.take_of_length_le (by rw [HLV.out]; exact Nat.le_refl _))
      have HPM : Hid ((ps.filter (fun p => !hitP d p)).length = m) := Lib.hid (by rw [← HF.out.1, ← HM.out, HT.out])
      go_wp2
      go_ret
      have hne : (Value.slice Al m cl).ownBlock ≠ some a := fun e => by have := (HO.out.lt a e).1; omega
      have K : Kept (foot a (.slice A0 N c0)) w (wr.setCell ⟨a, 0, none⟩ (.slice Al m cl)) := ((Kept.of_below HBW.out).setCell (fun _ => .inl rfl) _)
      refine ⟨ret_int (by rw [HPM.out]; omega), .slice Al m cl, vs.filter (keepB d), ⟨HN.out.lo, one_setCell HNR.out.cell, ?_, HF.out.1, ?_⟩, K, fun q hq => .inr (HO.out.lt q hq).1⟩
      · rw [HPM.out]
        have := HO.out
        rw [HT.out] at this
        exact own_moreN (ownsRow_setCell_other this hne _) hB
      · intro i x p h1 h2
        obtain ⟨j', g1, g2⟩ := HF.out.2 i x p h1 h2
        exact HN.out.old K g1 g2
end
end Go.Proofs.Ytlgkgmnnmlhaeaa
