import Derived.Test.YtbgnmkjjfaepiaaRingEachPlain
namespace Go.Proofs.Ytbgnmkjjfaepiaa
open Go.RowKit
set_option linter.unusedVariables false

def refS (x : Rg) (h : Int) (l : List Rg) : List Rg := l.flatMap fun y => if y = x then splitR x h else [y]
theorem refS_succ {x : Rg} {h : Int} {l : List Rg} {k : Nat} {y : Rg} (hk : l[k]? = some y) : refS x h (l.take (k + 1)) = refS x h (l.take k) ++ (if y = x then splitR x h else [y]) := by
  rw [List.take_add_one, hk]; simp [refS]
theorem refS_none {x : Rg} {h : Int} {l : List Rg} (hn : ∀ y ∈ l, y ≠ x) : refS x h l = l := by
  induction l with
  | nil => rfl
  | cons y l ih =>
    have h1 : refS x h (y :: l) = (if y = x then splitR x h else [y]) ++ refS x h l := by simp [refS]
    rw [h1, if_neg (hn y (by simp)), ih (fun z hz => hn z (by simp [hz]))]; rfl
theorem refS_len (x : Rg) (h : Int) (l : List Rg) : (refS x h l).length ≤ 2 * l.length := by
  induction l with
  | nil => simp [refS]
  | cons y l ih =>
    have h1 : refS x h (y :: l) = (if y = x then splitR x h else [y]) ++ refS x h l := by simp [refS]
    rw [h1, List.length_append, List.length_cons]
    split <;> simp [splitR] <;> omega
theorem refS_all {l : List Rg} {x : Rg} {h : Int} {k : Nat} (hs : soundL l = true) (hk : l[k]? = some x) (hh : has h x = true) : refS x h l = l.take k ++ splitR x h ++ l.drop (k + 1) := by
  have hne : ∀ j y, j ≠ k → l[j]? = some y → y ≠ x := fun j y hj hy e => by
    subst e
    exact hj (sg_uniq (sound_parts hs).1 hy hk hh hh)
  have hl : l = l.take k ++ x :: l.drop (k + 1) := by
    obtain ⟨hkl, he⟩ := List.getElem?_eq_some_iff.1 hk
    rw [← he, ← List.drop_eq_getElem_cons hkl, List.take_append_drop]
  have happ : refS x h (l.take k ++ x :: l.drop (k + 1)) = refS x h (l.take k) ++ ((if x = x then splitR x h else [x]) ++ refS x h (l.drop (k + 1))) := by simp [refS, List.flatMap_append]
  rw [← hl] at happ
  rw [happ, if_pos rfl, refS_none, refS_none, List.append_assoc]
  · intro y hy
    obtain ⟨i, hi, rfl⟩ := List.getElem_of_mem hy
    rw [List.getElem_drop]
    simp at hi
    exact hne (k + 1 + i) _ (by omega) (List.getElem?_eq_getElem (by omega))
  · intro y hy
    obtain ⟨i, hi, rfl⟩ := List.getElem_of_mem hy
    rw [List.getElem_take]
    simp at hi
    exact hne i _ (by omega) (List.getElem?_eq_getElem (by omega))

section
variable (w : World) (A : Option Addr) (n c : Nat) (l : List Rg) (hsh : Int) (hr : Reads w w.heap.size 4 A n (rowCells l)) (hw : ∀ r ∈ l, r.wf) (hl : l.length = n) (hnc : n ≤ c) (hm : c ≤ maxLen)
include hr hw hl hnc hm

set_option maxRecDepth 100000 in
set_option maxHeartbeats 8000000 in
theorem splitRef_any : Calls Try.prog 26 #[.slice A n c, .int .i64 hsh] w (RetRow w (splitL l hsh).1 (splitL l hsh).2) := by
  have hn : n ≤ maxLen := Nat.le_trans hnc hm
  have HFI : Hid (Calls Try.prog 15 #[.slice A n c, .int .i64 hsh] w (RetF w (findL l hsh))) := Lib.hid (findR_any w A n c l hsh hr hw hl hn)
  have HF : Hid ((findL l hsh = none ∧ splitL l hsh = ([], 1)) ∨ ∃ (k : Nat) (x : Rg), l[k]? = some x ∧ soundL l = true ∧ findL l hsh = some x ∧ has hsh x = true ∧ k < n ∧ splitL l hsh = (if x.a = hsh ∨ x.d = 1099511627776 then ([], 1) else if 64 ≤ n then ([], 2) else (l.take k ++ splitR x hsh ++ l.drop (k + 1), 0))) := Lib.hid (by
    cases hs : soundL l
    · left; unfold findL splitL; rw [hs]; simp
    · rcases find_split l hsh with ⟨h1, h2⟩ | ⟨k, r, h1, h2, h3, h4⟩
      · left
        unfold idxL at h1
        cases hf : l.findIdx? (has hsh) with
        | none => unfold findL splitL; rw [hs, h2, hf]; simp
        | some k => rw [hf] at h1; simp at h1
      · right
        unfold idxL at h1
        cases hf : l.findIdx? (has hsh) with
        | none => rw [hf] at h1; simp at h1
        | some k' =>
          rw [hf] at h1
          have : k' = k := by simp at h1; omega
          subst this
          refine ⟨k', r, h2, rfl, by unfold findL; rw [if_pos hs]; exact h3, List.find?_some h3, by omega, ?_⟩
          unfold splitL
          rw [if_neg (by rw [hs]; simp), hf]
          simp only [h2, Option.getD_some, hl])
  have HR := Lib.hid hr
  have HL := Lib.hid hl
  have hn' := hn
  unfold maxLen at hn'
  have HM := Lib.hid hm
  clear hr hw hl hm
  rcases HF.out with ⟨hf1, hf2⟩ | ⟨k0, x, hxk, hs, hf, hhx, hk0, hE⟩
  · have HE := Lib.hid hf2
    have HFI' : Hid (Calls Try.prog 15 #[.slice A n c, .int .i64 hsh] w fun e w' => e = .returned (.tuple #[.agg #[.int .i64 0, .int .i64 0, .int .i64 0, .int .i64 0], .bool false]) ∧ Below w.heap.size w w') := Lib.hid (by
      have := HFI.out; unfold RetF at this; rw [hf1] at this; exact this)
    clear hf1 hf2
    go_enter Try.func26, Try.ntmps26
    go_wp2_with (first
      | (refine wpList_unguard rfl ?_)
      | (go_at_call 15; refine HFI'.out.mono ?_; rintro e w1 ⟨rfl, hb1⟩))
    go_ret2
    rw [HE.out]
    exact ⟨none, 0, rfl, Nat.le_refl _, Nat.zero_le _, Reads.none_, hb1.alloc hb1.size _⟩
  have hsg := sg_mem (sound_parts hs).1 x (List.mem_of_getElem? hxk)
  have h64 := (sound_parts hs).2
  have HALL := Lib.hid (refS_all (h := hsh) hs hxk hhx)
  obtain ⟨xa, xb, xc, xd⟩ := x
  have hxo : 1 ≤ xc ∧ xc ≤ 5 ∧ 1 ≤ xd ∧ xd ≤ 1099511627776 := by have := hsg.2.2.2.2; simp [ownedL] at this; omega
  have hxh : xa ≤ hsh ∧ hsh ≤ xb := has_iff.1 hhx
  have hxb : xa ≤ xb ∧ xb ≤ 4294967295 ∧ 0 ≤ xa := ⟨hsg.2.1, hsg.2.2.2.1, hsg.1⟩
  have HE := Lib.hid hE
  have HFI' : Hid (Calls Try.prog 15 #[.slice A n c, .int .i64 hsh] w fun e w' => e = .returned (.tuple #[.agg #[.int .i64 xa, .int .i64 xb, .int .i64 xc, .int .i64 xd], .bool true]) ∧ Below w.heap.size w w') := Lib.hid (by
    have := HFI.out; unfold RetF at this; rw [hf] at this; exact this)
  clear hsg hf hE hs hxk hhx
  go_enter Try.func26, Try.ntmps26
  go_upto_region 2 with (go_at_call 15; refine HFI'.out.mono ?_; rintro e w1 ⟨rfl, hb1⟩)
  have HB1 : Hid (Below w.heap.size w (w1.alloc (.cells #[.int .i64 xa, .int .i64 xb, .int .i64 xc, .int .i64 xd] 31))) := Lib.hid (hb1.alloc hb1.size _)
  clear hb1
  by_cases e1 : xa = hsh
  · have e1b : (xa == hsh) = true := by simpa using e1
    have E1 := Lib.hid e1
    clear e1
    go_wp2_with (refine wpList_unguard rfl ?_)
    go_ret2
    rw [HE.out, if_pos (.inl E1.out)]
    exact ⟨none, 0, rfl, Nat.le_refl _, Nat.zero_le _, Reads.none_, HB1.out⟩
  have e1b : (xa == hsh) = false := by simpa using e1
  by_cases e2 : xd = 1099511627776
  · have e2b : (1099511627776 : Int) ≤ xd := by omega
    have E2 := Lib.hid e2
    clear e2
    go_wp2_with (refine wpList_unguard rfl ?_)
    go_ret2
    rw [HE.out, if_pos (.inr E2.out)]
    exact ⟨none, 0, rfl, Nat.le_refl _, Nat.zero_le _, Reads.none_, HB1.out⟩
  have e2b : decide ((1099511627776 : Int) ≤ xd) = false := by simp; omega
  by_cases e3 : 64 ≤ n
  · have e3i : (64 : Int) ≤ n := by omega
    go_wp2_with (refine wpList_unguard rfl ?_)
    go_ret2
    rw [HE.out, if_neg (by simp [e1, e2]), if_pos e3]
    exact ⟨none, 0, rfl, Nat.le_refl _, Nat.zero_le _, Reads.none_, HB1.out⟩
  have e3i : (n : Int) < 64 := by omega
  go_wp2_with (refine wpList_unguard rfl ?_)
  have HX6 : Hid ((w1.alloc (.cells #[.int .i64 xa, .int .i64 xb, .int .i64 xc, .int .i64 xd] 31)).rangeAt w1.heap.size 0 (Rg.cells ⟨xa, xb, xc, xd⟩) ∧ w1.heap.size < (w1.alloc (.cells #[.int .i64 xa, .int .i64 xb, .int .i64 xc, .int .i64 xd] 31)).heap.size) := Lib.hid ⟨range_new w1 (Rg.cells ⟨xa, xb, xc, xd⟩) _, by rw [alloc_size]; omega⟩
  generalize (w1.alloc (.cells #[.int .i64 xa, .int .i64 xb, .int .i64 xc, .int .i64 xd] 31)) = W2 at *
  generalize w1.heap.size = b6 at *
  have hgt : xa < hsh := by omega
  go_loopw [8, 9] (fun v i wr => ∃ (k : Nat), k ≤ n ∧ i = .int .i64 k ∧ Hid (Owns wr W2.heap.size 31 4 v (refS ⟨xa, xb, xc, xd⟩ hsh (l.take k)).length (rowCells (refS ⟨xa, xb, xc, xd⟩ hsh (l.take k)))) ∧ Hid (Below W2.heap.size W2 wr)) (fun _ i _ => n - (intOf i).toNat)
  case atStart => exact ⟨0, Nat.zero_le _, rfl, Lib.hid (Owns.nil_ _ _ _ _), Lib.hid (Below.refl _ _)⟩
  case round =>
    obtain ⟨k, hk, rfl, HO, HB⟩ := hrel
    by_cases hlt : k < n
    · refine code_hide (fun Q0 HQ0 => ?_)
      obtain ⟨y, hyk⟩ : ∃ y, l[k]? = some y := ⟨_, List.getElem?_eq_getElem (by have := HL.out; omega)⟩
      have HSU := Lib.hid (refS_succ (x := ⟨xa, xb, xc, xd⟩) (h := hsh) hyk)
      have HLN : Hid ((refS ⟨xa, xb, xc, xd⟩ hsh (l.take k)).length ≤ 2 * n) := Lib.hid (by have := refS_len ⟨xa, xb, xc, xd⟩ hsh (l.take k); rw [List.length_take] at this; omega)
      obtain ⟨ad, rfl, hab, hya⟩ := (HR.out.below (HB1.out.trans (HB.out.mono HB1.out.size))).range hyk hlt
      have R6 : Hid (wr.rangeAt b6 0 (Rg.cells ⟨xa, xb, xc, xd⟩)) := Lib.hid (range_below_at HX6.out.1 HB.out HX6.out.2)
      clear hyk
      by_cases hyx : y = ⟨xa, xb, xc, xd⟩
      · subst hyx
        have HA := Lib.hid hya
        have HB6 : Hid (∀ j' v, (Rg.cells ⟨xa, xb, xc, xd⟩)[j']? = some v → wr.cell? ((⟨b6, 0, none⟩ : Addr).add j') = some v) := Lib.hid fun j' v hv => by rw [Addr.add_mid]; exact R6.out j' v hv
        clear hya
        go_upto_region 10 with fail
        refine wp_region_quiet_lit (by kernel_rfl) (by kernel_rfl) ?_
        repeat (first
          | (go_big_quiet_want; refine quiet_load_at 31 _ rfl _ rfl [Value.int .i64 xa, .int .i64 xb, .int .i64 xc, .int .i64 xd] _ (by rintro W ⟨q, rfl⟩; first | exact HA.out | exact HB6.out) Try.underlying31 rfl (by kernel_rfl) ?_; go_simp; go_big_quiet_on)
          | (go_big_quiet_want; refine quiet_ne_rg _ _ rfl ⟨xa, xb, xc, xd⟩ ⟨xa, xb, xc, xd⟩ rfl rfl ?_; simp only [decide_true, Bool.not_true]; go_simp; go_big_quiet_on)
          | (go_big_quiet_step (fail)))
        refine wpQuiet_nil ?_
        rintro _ ⟨nq, rfl⟩
        have HO' : Hid (Owns (wr.drewN nq) W2.heap.size 31 4 _ (refS ⟨xa, xb, xc, xd⟩ hsh (l.take k)).length (rowCells (refS ⟨xa, xb, xc, xd⟩ hsh (l.take k)))) := HO
        have HBn : Hid (Below W2.heap.size W2 (wr.drewN nq)) := Lib.hid (below_drewN' HB.out nq)
        have q0 : (wr.drewN nq).cell? ⟨b6, 0, none⟩ = some (.int .i64 xa) := R6.out 0 _ rfl
        have q1 : (wr.drewN nq).cell? ⟨b6, 1, none⟩ = some (.int .i64 xb) := R6.out 1 _ rfl
        have q2 : (wr.drewN nq).cell? ⟨b6, 2, none⟩ = some (.int .i64 xc) := R6.out 2 _ rfl
        have q3 : (wr.drewN nq).cell? ⟨b6, 3, none⟩ = some (.int .i64 xd) := R6.out 3 _ rfl
        clear HO HB HA HB6
        generalize wr.drewN nq = w3 at *
        go_wp2_with (at_builtin; refine app_ranges _ rfl (.tmp 51) (.tmp 71) rfl W2.heap.size _ _ _ rfl (HO'.out.alloc _) _ _ 2 _ (rowCells (splitR ⟨xa, xb, xc, xd⟩ hsh)) rfl (reads_newRs w3 (splitR ⟨xa, xb, xc, xd⟩ hsh) _) (rowCells_one _) (by have := HLN.out; omega) (le_alloc HBn.out.size) ?_; intro v2 w4 ho2 hb2 hr2)
        refine hide_out HQ0 ?_
        go_step
        go_roundw
        case rel =>
          refine ⟨k + 1, by omega, by go_num, Lib.hid ?_, Lib.hid ((HBn.out.alloc HBn.out.size _).trans hb2)⟩
          rw [HSU.out]
          simp only [if_true]
          rw [List.length_append, rowCells_append]; exact ho2
        case measure => simp [intOf]; omega
      · obtain ⟨ya, yb, yc, yd⟩ := y
        have HA := Lib.hid hya
        have HYX := Lib.hid hyx
        have HB6 : Hid (∀ j' v, (Rg.cells ⟨xa, xb, xc, xd⟩)[j']? = some v → wr.cell? ((⟨b6, 0, none⟩ : Addr).add j') = some v) := Lib.hid fun j' v hv => by rw [Addr.add_mid]; exact R6.out j' v hv
        clear hya hyx
        go_upto_region 10 with fail
        refine wp_region_quiet_lit (by kernel_rfl) (by kernel_rfl) ?_
        repeat (first
          | (go_big_quiet_want; refine quiet_load_at 31 _ rfl _ rfl [Value.int .i64 ya, .int .i64 yb, .int .i64 yc, .int .i64 yd] _ (by rintro W ⟨q, rfl⟩; exact HA.out) Try.underlying31 rfl (by kernel_rfl) ?_; go_simp; go_big_quiet_on)
          | (go_big_quiet_want; refine quiet_load_at 31 _ rfl _ rfl [Value.int .i64 xa, .int .i64 xb, .int .i64 xc, .int .i64 xd] _ (by rintro W ⟨q, rfl⟩; exact HB6.out) Try.underlying31 rfl (by kernel_rfl) ?_; go_simp; go_big_quiet_on)
          | (go_big_quiet_want; refine quiet_ne_rg _ _ rfl ⟨ya, yb, yc, yd⟩ ⟨xa, xb, xc, xd⟩ rfl rfl ?_; simp only [HYX.out, decide_false, Bool.not_false]; go_simp; go_big_quiet_on)
          | (go_big_quiet_step (fail)))
        refine wpQuiet_nil ?_
        rintro _ ⟨nq, rfl⟩
        have HO' : Hid (Owns (wr.drewN nq) W2.heap.size 31 4 _ (refS ⟨xa, xb, xc, xd⟩ hsh (l.take k)).length (rowCells (refS ⟨xa, xb, xc, xd⟩ hsh (l.take k)))) := HO
        have HBn : Hid (Below W2.heap.size W2 (wr.drewN nq)) := Lib.hid (below_drewN' HB.out nq)
        have HA' : Hid (∀ j v, (Rg.cells ⟨ya, yb, yc, yd⟩)[j]? = some v → (wr.drewN nq).cell? ((ad.add (k * 4)).add j) = some v) := HA
        clear HO HB HA HB6
        generalize wr.drewN nq = w3 at *
        go_wp2_with (first
          | (refine wpList_load_at rfl 31 _ rfl _ rfl [Value.int .i64 ya, .int .i64 yb, .int .i64 yc, .int .i64 yd] _ HA'.out Try.underlying31 rfl (by kernel_rfl) ?_)
          | (at_builtin; refine app_ranges _ rfl (.tmp 44) (.tmp 49) rfl W2.heap.size _ _ _ rfl (HO'.out.alloc _) _ _ 1 _ (rowCells [⟨ya, yb, yc, yd⟩]) rfl (reads_newRs w3 [⟨ya, yb, yc, yd⟩] _) (rowCells_one _) (by have := HLN.out; omega) (le_alloc HBn.out.size) ?_; intro v2 w4 ho2 hb2 hr2))
        refine hide_out HQ0 ?_
        go_step
        go_roundw
        case rel =>
          refine ⟨k + 1, by omega, by go_num, Lib.hid ?_, Lib.hid ((HBn.out.alloc HBn.out.size _).trans hb2)⟩
          rw [HSU.out, if_neg HYX.out, List.length_append, rowCells_append]; exact ho2
        case measure => simp [intOf]; omega
    · obtain rfl : n = k := by omega
      have ho := HO.out
      rw [List.take_of_length_le (by have := HL.out; omega), HALL.out] at ho
      obtain ⟨A2, c2, hv2, hc2, hm2, hrd⟩ := ho.form
      subst hv2
      have HC2 := Lib.hid hc2
      have HRD := Lib.hid hrd
      clear hc2 hrd ho HO
      generalize hLL : (l.take k0 ++ splitR ⟨xa, xb, xc, xd⟩ hsh ++ l.drop (k0 + 1)).length = LL at *
      go_wp2
      go_ret2
      rw [HE.out, if_neg (by simp [e1, e2]), if_neg e3]
      refine ⟨A2, c2, ?_, by rw [hLL]; exact HC2.out, hm2, by rw [hLL]; exact HRD.out, HB1.out.trans (HB.out.mono HB1.out.size)⟩
      rw [hLL] <;> rfl
end
end Go.Proofs.Ytbgnmkjjfaepiaa
