/- The walk of one: a packet is lost. Its condition: the kind. -/
import Derived.Test.YtchhejheobceiaaSesQ0
namespace Go.Proofs.Ytchhejheobceiaa
open Go.RowKit
set_option linter.unusedVariables false

section
variable {base : Nat} {w : World} {T : Nat → Nat} {t t' a s r : Nat} {q : Sv} {x : Xs} {a' s' r' : Nat} {q' : Sv} {y : Xs} (D : Duo base w T t t' a s r q x x.ses a' s' r' q' y y.ses) (okx : x.ses.Ok) (oky : y.ses.Ok)
  (hxi : x.inn.length ≤ 500000) (hyi : y.inn.length ≤ 500000) (hxs : x.sent.length ≤ 500000) (hxg : x.got.length ≤ 500000)
  (sb : Bool) (kind : Int) (Am : Option Addr) (cm : Nat) (kz : Int) (yes : Bool) (m : List UInt8) (hm : TxAt base w (.slice Am m.length cm) m) (hml : m.length ≤ 100000) (hk5 : kind < 5) (hkz : -9223372036854775808 ≤ kz ∧ kz ≤ 9223372036854775807)
include D okx oky hxi hyi hxs hxg hm hml hk5 hkz
set_option maxRecDepth 100000 in
set_option maxHeartbeats 16000000 in
theorem one_k4 (hkinds : Hid (kind = 4)) : Calls Try.prog 14 #[.pointer (some ⟨a, 0, none⟩), .pointer (some ⟨a', 0, none⟩), .agg #[.bool sb, .int .i64 kind, .slice Am m.length cm, .int .i64 kz, .bool yes]] w (RetOne base w t t' a s r a' s' r' x y kind m kz yes) := by
  obtain ⟨ml, HML⟩ : ∃ ml, Hid (m.length = ml) := ⟨_, Lib.hid rfl⟩
  have HALL := Lib.hid (And.intro hxi (And.intro hyi (And.intro hxs (And.intro hxg (And.intro hk5 (And.intro hml hkz))))))
  clear HALL
  have HOKX := Lib.hid okx
  have HOKY := Lib.hid oky
  have hwx := okx.wait
  obtain ⟨hz1, hz2⟩ := hkz
  rw [HML.out] at hml hm ⊢
  have HW1 : Hid (∃ T1, Duo base (w.alloc (.cells #[.bool sb, .int .i64 kind, .slice Am ml cm, .int .i64 kz, .bool yes] 42)) T1 t t' a s r q x x.ses a' s' r' q' y y.ses ∧ Fr base w (w.alloc (.cells #[.bool sb, .int .i64 kind, .slice Am ml cm, .int .i64 kz, .bool yes] 42)) T1 w.heap.size [.bool sb, .int .i64 kind, .slice Am ml cm, .int .i64 kz, .bool yes] (.slice Am ml cm) m) := Lib.hid (by
    have hb : Below w.heap.size w (w.alloc (.cells #[.bool sb, .int .i64 kind, .slice Am ml cm, .int .i64 kz, .bool yes] 42)) := (Below.refl _ _).alloc (Nat.le_refl _) _
    have hM : Moved base w (w.alloc (.cells #[.bool sb, .int .i64 kind, .slice Am ml cm, .int .i64 kz, .bool yes] 42)) T (fun _ => False) := .of_below hb
    exact ⟨_, D.grow hb 99, Nat.le_trans D.x.hb hM.size, hM.below D.x.hb, range_new w [.bool sb, .int .i64 kind, .slice Am ml cm, .int .i64 kz, .bool yes] _, by rw [alloc_size]; omega, retag_ge (Nat.le_refl _), hM.txt hm D.x.hb⟩)
  clear okx oky hm
  have HD := Lib.hid D
  clear D
  go_enter Try.func14, Try.ntmps14
  go_upto_region 2 with fail
  generalize (w.alloc (.cells #[.bool sb, .int .i64 kind, .slice Am ml cm, .int .i64 kz, .bool yes] 42)) = W1 at *
  obtain ⟨b, HBB⟩ : ∃ b, Hid (w.heap.size = b) := ⟨_, Lib.hid rfl⟩
  simp only [HBB.out] at HW1 ⊢
  clear HBB
  obtain ⟨T1, h1, h2⟩ := HW1.out
  have HD1 := Lib.hid h1
  have HF1 := Lib.hid h2
  clear h1 h2 HW1 HD
  have z1 : W1.cell? ⟨b, 1, none⟩ = some (.int .i64 kind) := HF1.out.range 1 _ rfl
  have z2 : W1.cell? ⟨b, 2, none⟩ = some (.slice Am ml cm) := HF1.out.range 2 _ rfl
  have z3 : W1.cell? ⟨b, 3, none⟩ = some (.int .i64 kz) := HF1.out.range 3 _ rfl
  have z4 : W1.cell? ⟨b, 4, none⟩ = some (.bool yes) := HF1.out.range 4 _ rfl
  obtain ⟨a0, a1, a3, a4, a5⟩ := HD1.out.x.cells_
  go_upto_block 0 with fail
  go_cut [7] from 8 (fun s7 wx => Hid (Mid base w t t' a s r a' s' r' x y q' kind m kz yes s7 wx))
  case first =>
    rcases hkinds.out with rfl
    · skip
      -- [[E
      obtain ⟨ni, HNI⟩ : ∃ ni, Hid (x.inn.length = ni) := ⟨_, Lib.hid rfl⟩
      have hni : ni ≤ 500000 := by rw [← HNI.out]; exact hxi
      obtain ⟨us, hrow, htx⟩ := HD1.out.x.inn
      rw [HNI.out] at hrow
      by_cases hemp : ni = 0
      · obtain ⟨Ai, ci, hvi, _⟩ := hrow.form
        rw [hvi] at a3
        have HT : Hid (OneTo x y 4 m kz yes x y) := Lib.hid (.none (.inr rfl) (List.eq_nil_of_length_eq_zero (by rw [HNI.out]; exact hemp)))
        subst hemp
        clear hrow htx hvi
        go_wp2_with (refine wpList_unguard rfl ?_)
        go_ret
        exact ⟨rfl, HF1.out.below, T1, q, q', x, y, HT.out, HD1.out⟩
      obtain ⟨gi, oi, ci, hvi, _, hnc, hcm⟩ := hrow.some_ (by omega)
      have a3' : W1.cell? ⟨a, 3, none⟩ = some (.slice (some ⟨gi, oi, none⟩) ni ci) := by rw [← hvi]; exact a3
      have hci : ci ≤ 9223372036854775807 := by unfold maxLen at hcm; exact hcm
      have hrow' := hrow
      rw [hvi] at hrow'
      obtain ⟨_, _, e, _, _, hrd⟩ := hrow'.form
      injection e with e1 e2 e3
      subst e1 e3
      have HRD := Lib.hid hrd
      have HTX := Lib.hid htx
      have HVI := Lib.hid hvi
      obtain ⟨rb1, rb2⟩ := roundZ_bd kz ni (by omega)
      obtain ⟨k, hk⟩ := Int.eq_ofNat_of_zero_le rb1
      have HRO : Hid (∀ j, Calls Try.prog 27 #[.int .i64 kz, .int .i64 (ni : Int)] (W1.drewN j) fun e w' => e = .returned (.int .i64 (k : Int)) ∧ W1.drewN j = w') := Lib.hid fun j => by have := round_any kz ni (W1.drewN j) (by omega) (by omega); rw [hk] at this; exact this
      have HKZ := Lib.hid hk
      have hkn : k < ni := by omega
      obtain ⟨p, hp⟩ : ∃ p, x.inn[k]? = some p := ⟨_, List.getElem?_eq_getElem (by rw [HNI.out]; exact hkn)⟩
      obtain ⟨pu, hpu⟩ : ∃ pu, us[k]? = some pu := ⟨_, List.getElem?_eq_getElem (by rw [htx.1, HNI.out]; exact hkn)⟩
      have htp := htx.2 k pu p hpu hp
      obtain ⟨Ap, cp, rfl, hpc, hpm, _⟩ := htp.value HF1.out.hb
      have HPM := Lib.hid hpm
      obtain ⟨pl, HPL⟩ : ∃ pl, Hid (p.length = pl) := ⟨_, Lib.hid rfl⟩
      rw [HPL.out] at hpu htp hpc
      have HTP := Lib.hid htp
      have HPP := Lib.hid hp
      obtain ⟨ad0, u0, e0, hxk, hck⟩ := reads_at' hrd hkn
      injection e0 with e0
      subst e0
      rw [hpu] at hxk
      injection hxk with hxk
      subst hxk
      clear hrow hrow' htx hvi hrd rb1 rb2 hk hp hpu htp hcm a3 hpm
      go_upto_region 23 with (refine wpList_unguard rfl ?_)
      refine wp_region_quiet_lit (by kernel_rfl) (by kernel_rfl) ?_
      repeat (go_big_quiet_step ((go_at_call 27; first | exact quiet_left (HRO.out _) | exact quiet_add_left (HRO.out _))))
      refine wpQuiet_nil ?_
      rintro _ ⟨nq, rfl⟩
      have hb2 : Below W1.heap.size W1 (W1.drewN nq) := below_drewN (Below.refl _ _) nq
      have HD2 := Lib.hid (HD1.out.same hb2)
      have HF2 := Lib.hid (HF1.out.same hb2)
      have HRD2 : Hid (Reads (W1.drewN nq) W1.heap.size 1 (some ⟨gi, oi, none⟩) ni us) := Lib.hid (HRD.out.drewN nq)
      have HTX2 : Hid (Txs base (W1.drewN nq) us x.inn) := Lib.hid (HTX.out.keep (S := fun _ => False) (.of_below hb2) (loose_no _ _) HF1.out.hb)
      have HTP2 : Hid (TxAt base (W1.drewN nq) (.slice Ap pl cp) p) := Lib.hid (HTP.out.keep (S := fun _ => False) (.of_below hb2) (loose_no _ _) HF1.out.hb)
      have hsz2 : (W1.drewN nq).heap.size = W1.heap.size := rfl
      have f1 : (W1.drewN nq).cell? ⟨a, 3, none⟩ = some (.slice (some ⟨gi, oi, none⟩) ni ci) := a3'
      have f2 : (W1.drewN nq).cell? ⟨gi, oi + k, none⟩ = some (.slice Ap pl cp) := by rw [← Addr.add_mid]; exact hck
      have f3 : (W1.drewN nq).cell? ⟨b, 1, none⟩ = some (.int .i64 4) := z1
      have f4 : (W1.drewN nq).cell? ⟨b, 4, none⟩ = some (.bool yes) := z4
      clear hb2 HRO HRD HTX HTP a3' hck z1 z2 z3 z4 a0 a1 a4 a5
      rw [← hsz2] at HRD2
      clear hsz2 HD1 HF1
      generalize W1.drewN nq = W2 at *
      go_upto_region 25 with (refine wpList_unguard rfl ?_)
      obtain ⟨Wa, rfl⟩ : ∃ W, W = W2 := ⟨W2, rfl⟩
      go_cut [122] from 15 (fun s122 wx => s122 = .bool true ∧ wx = Wa)
      case first =>
        cases yes
        all_goals go_wp2_with (refine wpList_unguard rfl ?_)
        all_goals go_meet
        all_goals exact ⟨rfl, rfl⟩
      obtain ⟨rfl, rfl⟩ := hcut
      obtain ⟨W2, rfl⟩ : ∃ W, W = wc := ⟨wc, rfl⟩
      go_upto_if 122 with fail
      go_cut [] from 15 (fun wx => Hid (∃ T' q1 l, l = (if False then x.inn else x.inn.take k ++ x.inn.drop (k + 1)) ∧ Duo base wx T' t t' a s r q1 { x with inn := l } x.ses a' s' r' q' y y.ses ∧ Fr base w wx T' b [.bool sb, .int .i64 4, .slice Am ml cm, .int .i64 kz, .bool yes] (.slice Am ml cm) m ∧ TxAt base wx (.slice Ap pl cp) p))
      case first =>
        -- [[E1
        obtain ⟨k1, hk1, hk1'⟩ : ∃ k1 : Nat, (k : Int) + 1 = (k1 : Int) ∧ k1 = k + 1 := ⟨k + 1, by omega, rfl⟩
        have HK1 := Lib.hid hk1'
        have hkk : k1 ≤ ni := by omega
        have w1 : IntKind.i64.wrap (k1 : Int) = (k1 : Int) := IntWalk.i64_in _ (by omega)
        have ha2 : a < W2.heap.size := HD2.out.x.a_lt
        have fr3 := HD2.out.x.free 3
        have hb2 := HF2.out.hb
        have HON : Hid (∀ u ∈ us, u.oneCell' = true) := Lib.hid (HTX2.out.one_ hb2)
        have HTK2 : Hid (Reads W2 W2.heap.size 1 (some ⟨gi, oi, none⟩) k (us.take k)) := Lib.hid (by have := HRD2.out.take_ (k := k) (by omega); rwa [Nat.mul_one] at this)
        have HDR : Hid (Reads W2 W2.heap.size 1 (if ci = k1 then some ⟨gi, oi, none⟩ else some ⟨gi, oi + k1, none⟩) (ni - k1) (us.drop k1)) := Lib.hid (by have := HRD2.out.cut hkk hnc; rw [Nat.mul_one, Option.map_some, Addr.add_mid] at this; exact this)
        have HFIN : Hid (∀ w4 v4, Row w4 W2.heap.size 30 v4 (k + (ni - k1)) (us.take k ++ us.drop k1) → Below W2.heap.size W2 w4 → ∃ T' q1 l, l = (if False then x.inn else x.inn.take k ++ x.inn.drop (k + 1)) ∧ Duo base (w4.setCell ⟨a, 3, none⟩ v4) T' t t' a s r q1 { x with inn := l } x.ses a' s' r' q' y y.ses ∧ Fr base w (w4.setCell ⟨a, 3, none⟩ v4) T' b [.bool sb, .int .i64 4, .slice Am ml cm, .int .i64 kz, .bool yes] (.slice Am ml cm) m ∧ TxAt base (w4.setCell ⟨a, 3, none⟩ v4) (.slice Ap pl cp) p) := Lib.hid (by
          intro w4 v4 h1 h2
          have hk : Kept (fun _ => False) W2 w4 := .of_below h2
          have hlines : Lines base w4 v4 (x.inn.take k ++ x.inn.drop (k + 1)) := ⟨us.take k ++ us.drop k1, by
            rw [show (x.inn.take k ++ x.inn.drop (k + 1)).length = k + (ni - k1) by rw [List.length_append, List.length_take, List.length_drop, HNI.out]; have := HK1.out; omega]
            exact h1.more hb2, by
            have t1 := (HTX2.out.take_ k).app (HTX2.out.drop_ k1)
            rw [HK1.out] at t1 ⊢
            exact t1.keep hk (loose_no _ _) hb2⟩
          obtain ⟨hd, hm⟩ := HD2.out.inn hk (loose_no _ _) (fun _ _ e => e.elim) hlines (fun g hg => .inr (h1.lt g hg).1)
          have hi := HD2.out.hi
          exact ⟨_, _, _, (if_neg id).symm, hd, HF2.out.step hm (fun h => by rcases h with h | h <;> omega) (t + 5), hm.txt HTP2.out hb2⟩)
        clear hk1' HRD2
        have hcc : ci = k1 ∨ ¬ ci = k1 := Decidable.em _
        rcases hcc with hcc | hcc
        · have HDR1 : Hid (Reads W2 W2.heap.size 1 (some ⟨gi, oi, none⟩) (ni - k1) (us.drop k1)) := Lib.hid (by have := HDR.out; rw [if_pos hcc] at this; exact this)
          have hn0 : ni = k1 := by omega
          subst hcc
          subst hn0
          have hz0 : ni - ni = 0 := Nat.sub_self _
          rw [hz0] at HDR1 HFIN
          clear HDR
          go_wp2_with (first
            | (refine wpList_unguard rfl ?_)
            | (at_builtin; refine app_rowsL _ rfl (.tmp 123) (.tmp 129) rfl W2.heap.size _ 0 [] rfl (Row.nil_ _ _ _) _ W2.heap.size k _ (us.take k) rfl HTK2.out (fun u hu => HON.out u (List.mem_of_mem_take hu)) (by omega) (Nat.le_refl _) ?_; intro v3 w3 ho3 hk3 hg3; rw [Nat.zero_add, List.nil_append] at ho3; have HO3 := Lib.hid ho3; have HB3 : Hid (Below W2.heap.size W2 w3) := Lib.hid (hk3.below (Nat.le_refl _) (fun k hk => by cases hk)); have z3 := HB3.out.size; have y3 : w3.cell? ⟨a, 3, none⟩ = some (.slice (some ⟨gi, oi, none⟩) ni ni) := (HB3.out.cell (p := ⟨a, 3, none⟩) ha2).trans f1; obtain ⟨A3, c3', rfl, _⟩ := ho3.form; clear ho3 hk3 hg3)
            | (at_builtin; refine app_rowsL _ rfl (.tmp 132) (.tmp 139) rfl W2.heap.size _ k (us.take k) rfl HO3.out _ W2.heap.size 0 _ (us.drop ni) rfl (HDR1.out.below HB3.out) (fun u hu => HON.out u (List.mem_of_mem_drop hu)) (by omega) z3 ?_; intro v4 w4 ho4 hk4 hg4; have HO4 := Lib.hid ho4; have HB4 : Hid (Below W2.heap.size W2 w4) := Lib.hid (HB3.out.trans (hk4.below z3 (fun q hq => (HO3.out.lt q hq).1))); have y4 : w4.cell? ⟨a, 3, none⟩ = some (.slice (some ⟨gi, oi, none⟩) ni ni) := (HB4.out.cell (p := ⟨a, 3, none⟩) ha2).trans f1; have y5 : w4.frozen? ⟨a, 3, none⟩ = false := (HB4.out.frozen (p := ⟨a, 3, none⟩) ha2).trans fr3; obtain ⟨A4, c4', rfl, _⟩ := ho4.form; clear ho4 hk4 hg4))
          go_meet
          exact Lib.hid (HFIN.out _ _ HO4.out HB4.out)
        · have HDR1 : Hid (Reads W2 W2.heap.size 1 (some ⟨gi, oi + k1, none⟩) (ni - k1) (us.drop k1)) := Lib.hid (by have := HDR.out; rw [if_neg hcc] at this; exact this)
          clear HDR
          go_wp2_with (first
            | (refine wpList_unguard rfl ?_)
            | (at_builtin; refine app_rowsL _ rfl (.tmp 123) (.tmp 129) rfl W2.heap.size _ 0 [] rfl (Row.nil_ _ _ _) _ W2.heap.size k _ (us.take k) rfl HTK2.out (fun u hu => HON.out u (List.mem_of_mem_take hu)) (by omega) (Nat.le_refl _) ?_; intro v3 w3 ho3 hk3 hg3; rw [Nat.zero_add, List.nil_append] at ho3; have HO3 := Lib.hid ho3; have HB3 : Hid (Below W2.heap.size W2 w3) := Lib.hid (hk3.below (Nat.le_refl _) (fun k hk => by cases hk)); have z3 := HB3.out.size; have y3 : w3.cell? ⟨a, 3, none⟩ = some (.slice (some ⟨gi, oi, none⟩) ni ci) := (HB3.out.cell (p := ⟨a, 3, none⟩) ha2).trans f1; obtain ⟨A3, c3', rfl, _⟩ := ho3.form; clear ho3 hk3 hg3)
            | (at_builtin; refine app_rowsL _ rfl (.tmp 132) (.tmp 139) rfl W2.heap.size _ k (us.take k) rfl HO3.out _ W2.heap.size (ni - k1) _ (us.drop k1) rfl (HDR1.out.below HB3.out) (fun u hu => HON.out u (List.mem_of_mem_drop hu)) (by omega) z3 ?_; intro v4 w4 ho4 hk4 hg4; have HO4 := Lib.hid ho4; have HB4 : Hid (Below W2.heap.size W2 w4) := Lib.hid (HB3.out.trans (hk4.below z3 (fun q hq => (HO3.out.lt q hq).1))); have y4 : w4.cell? ⟨a, 3, none⟩ = some (.slice (some ⟨gi, oi, none⟩) ni ci) := (HB4.out.cell (p := ⟨a, 3, none⟩) ha2).trans f1; have y5 : w4.frozen? ⟨a, 3, none⟩ = false := (HB4.out.frozen (p := ⟨a, 3, none⟩) ha2).trans fr3; obtain ⟨A4, c4', rfl, _⟩ := ho4.form; clear ho4 hk4 hg4))
          go_meet
          exact Lib.hid (HFIN.out _ _ HO4.out HB4.out)
        -- ]]E1
      case rest =>
        -- [[E2
        obtain ⟨T5, q5, l, hl, hd5, hf5, _⟩ := hcut.out
        rw [if_neg id] at hl
        subst hl
        have HD5 := Lib.hid hd5
        have HF5 := Lib.hid hf5
        have f5 : wc.cell? ⟨b, 1, none⟩ = some (.int .i64 4) := hf5.range 1 _ rfl
        clear hd5 hf5 hcut
        go_wp2
        go_ret
        exact ⟨rfl, HF5.out.below, T5, q5, q', _, y, .lose k p rfl HPP.out, HD5.out⟩
        -- ]]E2
      -- ]]E
  case rest =>
    -- [[R
    obtain ⟨T5, q5, x1, out, lo, h1, h2, h3, h4, h5, h6, h7⟩ := hcut.out
    have HT := Lib.hid h1
    have HD5 := Lib.hid h2
    have HU5 := Lib.hid h3
    have HTG := Lib.hid h4
    have HBW := Lib.hid h6
    have HOK1 := Lib.hid h7
    obtain ⟨ol, HOL⟩ : ∃ n, Hid (out.length = n) := ⟨_, Lib.hid rfl⟩
    rw [HOL.out] at h5
    obtain ⟨Au, cu, rfl⟩ := h3.value
    clear hcut h1 h2 h3 h4 h6 h7 HD1 HF1 z1 z2 z3 z4 a0 a1 a3 a4 a5
    obtain ⟨yn, HYN⟩ : ∃ n, Hid (y.inn.length = n) := ⟨_, Lib.hid rfl⟩
    have hyn : yn ≤ 500000 := by rw [← HYN.out]; exact hyi
    obtain ⟨usv, hrow, htx⟩ := HD5.out.y.inn
    have hrow' : Row wc base 30 q'.vi yn usv := by rw [← HYN.out]; exact hrow
    obtain ⟨Av, cv, hvi, _⟩ := hrow'.form
    have HROW := Lib.hid hrow'
    have HTXV := Lib.hid htx
    rw [hvi] at HROW
    obtain ⟨uo, huo, hoo⟩ := HU5.out
    rw [HOL.out] at huo
    simp only [HOL.out]
    obtain ⟨_, _, e, _, _, hrdo⟩ := huo.form
    injection e with e1 e2 e3
    subst e1 e3
    have HRDO := Lib.hid hrdo
    have HOO := Lib.hid hoo
    have HONE : Hid (∀ u ∈ uo, u.oneCell' = true) := Lib.hid (Row.one_ (n := 0) (w := wc) (B := 0) (v := .slice none 0 0) hoo)
    have d3 : wc.cell? ⟨a', 3, none⟩ = some (.slice Av yn cv) := by rw [← hvi]; exact HD5.out.y.cells_.2.2.1
    have e3 := HD5.out.y.free 3
    have ha5 : a' < wc.heap.size := HD5.out.y.a_lt
    have hb5 : base ≤ wc.heap.size := HD5.out.x.hb
    have HLS : Hid (Lines base wc (.slice Av yn cv) y.inn) := Lib.hid (by rw [← hvi]; exact HD5.out.y.inn)
    have HTV : Hid (∀ g, (Value.slice Av yn cv).ownBlock = some g → T5 g = t' + 5) := Lib.hid (fun g e => HD5.out.y.tvi g (by rw [hvi]; exact e))
    have HNA : Hid (¬ (Value.slice Av yn cv).ownBlock = some a') := Lib.hid (fun e => by have h1 := HTV.out a' e; have h2 := HD5.out.y.ta; omega)
    clear hrow htx hrow' huo hrdo hoo hvi
    have HFIN : Hid (∀ w10 A10 c10, Row w10 base 30 (.slice A10 (yn + ol) c10) (yn + ol) (usv ++ uo) → Kept (fun k => (Value.slice Av yn cv).ownBlock = some k) wc w10 → (∀ g, (Value.slice A10 (yn + ol) c10).ownBlock = some g → (Value.slice Av yn cv).ownBlock = some g ∨ wc.heap.size ≤ g) →
        (∃ T q1 q2, Duo base (w10.setCell ⟨a', 3, none⟩ (.slice A10 (yn + ol) c10)) T t t' a s r q1 x1 x1.ses a' s' r' q2 { y with inn := y.inn ++ out } y.ses) ∧ Below base w (w10.setCell ⟨a', 3, none⟩ (.slice A10 (yn + ol) c10))) := Lib.hid (by
      intro w10 A10 c10 h1 h2 h3
      have hL : Loose base wc (fun k => (Value.slice Av yn cv).ownBlock = some k) := HD5.out.y.loose_row HLS.out
      have hlines : Lines base w10 (.slice A10 (yn + ol) c10) (y.inn ++ out) := ⟨usv ++ uo, by rw [List.length_append, HYN.out, HOL.out]; exact h1, (HTXV.out.keep h2 hL hb5).app ((Txs.of_own HOO.out).keep h2 hL hb5)⟩
      obtain ⟨hd, hm⟩ := HD5.out.swap.inn h2 hL (fun g _ e => HTV.out g e) hlines (fun g hg => (h3 g hg).imp (HTV.out g) id)
      exact ⟨⟨_, _, _, hd.swap⟩, HBW.out.trans (hm.below hb5)⟩)
    go_upto_region 43 with (at_builtin; refine app_rowsL _ rfl (.tmp 206) (.tmp 207) rfl base _ yn usv rfl HROW.out _ wc.heap.size ol _ uo rfl HRDO.out HONE.out (by omega) hb5 ?_; intro v10 w10 ho10 hk10 hg10; have HO10 := Lib.hid ho10; have HK10 : Hid (Kept (fun k => (Value.slice Av yn cv).ownBlock = some k) wc w10) := Lib.hid hk10; have HG10 : Hid (∀ g, v10.ownBlock = some g → (Value.slice Av yn cv).ownBlock = some g ∨ wc.heap.size ≤ g) := Lib.hid hg10; obtain ⟨A10, c10, rfl, _⟩ := ho10.form; have y6 : w10.cell? ⟨a', 3, none⟩ = some (.slice Av yn cv) := (HK10.out.cell (a := ⟨a', 3, none⟩) ha5 HNA.out).trans d3; have y7 : w10.frozen? ⟨a', 3, none⟩ = false := (HK10.out.frozen (a := ⟨a', 3, none⟩) ha5 HNA.out).trans e3; clear ho10 hk10 hg10)
    obtain ⟨⟨T6, q1, q2, hd6⟩, hb6⟩ := HFIN.out _ _ _ HO10.out HK10.out HG10.out
    have HD6 := Lib.hid hd6
    have HB6 := Lib.hid hb6
    clear hd6 hb6 HFIN HO10 HK10 HG10 y6 y7 d3 e3 HNA HTV HLS HONE HOO HRDO HROW HTXV HU5 HTG HD5 ha5
    generalize (w10.setCell ⟨a', 3, none⟩ (.slice A10 (yn + ol) c10)) = W6 at *
    obtain ⟨b0, b1, _⟩ := HD6.out.x.cells_
    obtain ⟨us1, hus1⟩ := HD6.out.x.ses
    obtain ⟨us2, hus2⟩ := HD6.out.x.ref
    obtain ⟨wl, HWL⟩ : ∃ n, Hid (x1.ses.wait.length = n) := ⟨_, Lib.hid rfl⟩
    obtain ⟨pe, HPE⟩ : ∃ n, Hid (x1.ses.peer = n) := ⟨_, Lib.hid rfl⟩
    have HWT : Hid (∀ k, Calls Try.prog 11 #[.pointer (some ⟨s, 0, none⟩)] (W6.drewN k) fun e w' => e = .returned (.int .i64 wl) ∧ W6.drewN k = w') := Lib.hid fun k => by have := waiting_any (hus1.grow (below_drewN (Below.refl _ _) k)) HOK1.out; rw [HWL.out] at this; exact this
    have HPT : Hid (∀ k, Calls Try.prog 10 #[.pointer (some ⟨s, 0, none⟩)] (W6.drewN k) fun e w' => e = .returned (.int .i64 pe) ∧ W6.drewN k = w') := Lib.hid fun k => by have := peer_any (hus1.grow (below_drewN (Below.refl _ _) k)) HOK1.out; rw [HPE.out] at this; exact this
    obtain ⟨_, b4, _, b5, _⟩ := hus2.cells_
    rw [HPE.out] at b4
    obtain ⟨Ar, cr, hvr, _⟩ := hus2.row.form
    rw [hvr, HWL.out] at b5
    have hwl : wl ≤ 200 := by rw [← HWL.out]; exact HOK1.out.wait
    clear hus1 hus2 hvr
    refine wp_region_quiet_lit (by kernel_rfl) (by kernel_rfl) ?_
    repeat (go_big_quiet_step ((first | (go_at_call 11; first | exact quiet_left (HWT.out _) | exact quiet_add_left (HWT.out _)) | (go_at_call 10; first | exact quiet_left (HPT.out _) | exact quiet_add_left (HPT.out _)))))
    refine wpQuiet_nil ?_
    rintro _ ⟨nq, rfl⟩
    go_wp2
    go_ret
    refine ⟨by simp, HB6.out.trans (below_drewN (Below.refl _ _) nq), T6, q1, q2, x1, _, HT.out, HD6.out.same (below_drewN (Below.refl _ _) nq)⟩
    -- ]]R
end
end Go.Proofs.Ytchhejheobceiaa
