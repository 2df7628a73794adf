/- The walk of the law FrameRows. No condition. -/
import Derived.Test.YtpacbdfingbhgaaFrameLaws5
namespace Go.Proofs.Ytpacbdfingbhgaa
open Go.RowKit
set_option linter.unusedVariables false

theorem end_full {ls : List (List UInt8)} {n : Nat} (h : ls.length = n) : endAt ls n = (putsL ls).length := by subst h; exact endAt_all ls

set_option maxRecDepth 100000 in
set_option maxHeartbeats 4000000 in
theorem frameRows_walk (w : World) (A : Option Addr) (n c : Nat) (vs : List Value) (ls : List (List UInt8)) (ha : Reads w w.heap.size 1 A n vs) (hv : AreBytes w w.heap.size vs ls) (hnc : n ≤ c) (hc : c ≤ maxLen)
    (B : Option Addr) (m d : Nat) (us : List Value) (ms : List (List UInt8)) (ha2 : Reads w w.heap.size 1 B m us) (hv2 : AreBytes w w.heap.size us ms) (hmd : m ≤ d) (hd : d ≤ maxLen) :
    Calls Try.prog 8 #[.slice A n c, .slice B m d] w (RetTrue w) := by
  have HL : Hid (ls.length = n) := by have := ha.1; have := hv.1; unfold Hid; omega
  have HL2 : Hid (ms.length = m) := by have := ha2.1; have := hv2.1; unfold Hid; omega
  unfold maxLen at hc hd
  by_cases hl : 10 < n
  · go_enter Try.func8, Try.ntmps8
    go_wp2_with (go_at_call 9; refine (awake_any _).mono ?_; rintro e w' ⟨rfl, hb⟩)
    go_ret
    exact ⟨rfl, hb⟩
  have hn : n ≤ 10 := by omega
  clear hl
  by_cases hl : 10 < m
  · go_enter Try.func8, Try.ntmps8
    go_wp2_with (go_at_call 9; refine (awake_any _).mono ?_; rintro e w' ⟨rfl, hb⟩)
    go_ret
    exact ⟨rfl, hb⟩
  have hm : m ≤ 10 := by omega
  clear hl
  by_cases ht : 3000 < totalL ls 3000
  · go_enter Try.func8, Try.ntmps8
    go_wp2_with fail
    refine (total_any A n c vs ls 3000 _ ha hv (by unfold maxLen; omega) (by omega)).mono ?_
    rintro e w1 ⟨rfl, hb1⟩
    go_wp2_with (go_at_call 9; refine (awake_any _).mono ?_; rintro e w' ⟨rfl, hb⟩)
    go_ret
    exact RetTrue.from hb1 ⟨rfl, hb⟩
  have ht1 : totalL ls 3000 ≤ 3000 := by omega
  clear ht
  by_cases ht : 3000 < totalL ms 3000
  · go_enter Try.func8, Try.ntmps8
    go_wp2_with fail
    refine (total_any A n c vs ls 3000 _ ha hv (by unfold maxLen; omega) (by omega)).mono ?_
    rintro e w1 ⟨rfl, hb1⟩
    have hz1 := hb1.size
    go_wp2_with fail
    refine (total_any B m d us ms 3000 _ ((ha2.below hb1).more hz1) ((hv2.below hb1).more hz1) (by unfold maxLen; omega) (by omega)).mono ?_
    rintro e w2 ⟨rfl, hb2⟩
    go_wp2_with (go_at_call 9; refine (awake_any _).mono ?_; rintro e w' ⟨rfl, hb⟩)
    go_ret
    exact RetTrue.from (hb1.trans (hb2.mono hz1)) ⟨rfl, hb⟩
  have ht2 : totalL ms 3000 ≤ 3000 := by omega
  clear ht
  have hs1 := totalL_small (by unfold sumMost; omega) ht1
  have hs2 := totalL_small (by unfold sumMost; omega) ht2
  have HQ : Hid (∀ q ∈ ls, q.length ≤ 3000) := fun q hq => by have := len_le_sum ls q hq; omega
  have HQ2 : Hid (∀ q ∈ ms, q.length ≤ 3000) := fun q hq => by have := len_le_sum ms q hq; omega
  have HE : Hid (∀ i, endAt ls i ≤ 4000) := fun i => by have := endAt_le ls i; have := HL.out; omega
  have HE2 : Hid (∀ i, endAt ms i ≤ 4000) := fun i => by have := endAt_le ms i; have := HL2.out; omega
  have HS : Hid (∀ i l, ls[i]? = some l → endAt ls (i + 1) = endAt ls i + (l.length + 8)) := fun i l h => endAt_succ h
  have HS2 : Hid (∀ i l, ms[i]? = some l → endAt ms (i + 1) = endAt ms i + (l.length + 8)) := fun i l h => endAt_succ h
  clear hs1 hs2
  go_enter Try.func8, Try.ntmps8
  go_wp2_with fail
  refine (total_any A n c vs ls 3000 _ ha hv (by unfold maxLen; omega) (by omega)).mono ?_
  rintro e w1 ⟨rfl, hb1⟩
  have hz1 := hb1.size
  go_wp2_with fail
  refine (total_any B m d us ms 3000 _ ((ha2.below hb1).more hz1) ((hv2.below hb1).more hz1) (by unfold maxLen; omega) (by omega)).mono ?_
  rintro e w2 ⟨rfl, hb2⟩
  have hb02 := hb1.trans (hb2.mono hz1)
  have hz02 := hb02.size
  clear hb1 hb2 hz1
  go_wp2
  go_loopw [5, 7] (fun vb i wr => ∃ k : Nat, k ≤ n ∧ i = .int .i64 k ∧ wr.ownsRow w2.heap.size 5 1 vb (endAt ls k) (bc (putsL (ls.take k))) ∧ Below w2.heap.size w2 wr) (fun _ i _ => n - (intOf i).toNat)
  case atStart => exact ⟨0, Nat.zero_le _, rfl, by rw [endAt_zero]; exact World.ownsRow_nil _ _ _ _, Below.refl _ _⟩
  case round =>
    obtain ⟨k, hk, rfl, hvb, hb⟩ := hrel
    have hz := hb.size
    have hb0 := hb02.trans (hb.mono hz02)
    by_cases hlt : k < n
    · obtain ⟨ad, u, rfl, hu, hca⟩ := (ha.below hb0).at' hlt
      obtain ⟨l, hl⟩ : ∃ l, ls[k]? = some l := ⟨_, List.getElem?_eq_getElem (by have := HL.out; omega)⟩
      obtain ⟨A1, c1, rfl, hc1, hm1, hr1⟩ := hv.2 k u l hu hl
      have hr2 := (hr1.below hb0).more (show w.heap.size ≤ wr.heap.size by omega)
      have hlen := HQ.out l (List.mem_of_getElem? hl)
      have hek := HE.out k
      have HK := Lib.hid (HS.out k l hl)
      have HX := Lib.hid hl
      have HPL := Lib.hid (putL_length l)
      clear hu hl
      go_wp2_with fail
      refine (fput_yes A1 _ c1 l _ hr2 (by omega)).mono ?_
      rintro e w3 ⟨A2, c2, rfl, ho2, hb2⟩
      have hz2 := hb2.size
      have hpl : (putL l).length ≤ 4000 ∧ 0 < (putL l).length := by rw [HPL.out]; omega
      obtain ⟨hpl1, hpl2⟩ := hpl
      have hvb2 := own_below hvb hb2 (Nat.le_refl _)
      clear hvb
      go_wp2_with (at_builtin; refine app_own_bytes _ rfl (.tmp 54) (.tmp 55) rfl w2.heap.size _ _ _ rfl hvb2 _ _ _ _ _ rfl ho2 hpl2 (by omega) (by omega) ?_; intro v3 w4 ho3 hg3 hb3)
      have e1 : endAt ls (k + 1) = endAt ls k + (putL l).length := by rw [HK.out, HPL.out]
      have hvb5 : w4.ownsRow w2.heap.size 5 1 v3 (endAt ls (k + 1)) (bc (putsL (ls.take (k + 1)))) := by
        rw [e1, putsL_snoc HX.out, bc, Lib.byteCells_append]; exact ho3
      have HV := Lib.hid hvb5
      have HB : Hid (Below w2.heap.size w2 w4) := (hb.trans (hb2.mono hz)).trans hb3
      clear hvb5 e1
      go_roundw
      case rel => exact ⟨k + 1, by omega, by go_num, HV.out, HB.out⟩
      case measure => simp [intOf]; omega
    · obtain rfl : n = k := by omega
      clear hlt
      have hx1 := hvb
      rw [List.take_of_length_le (by rw [HL.out]; exact Nat.le_refl _ : ls.length ≤ n)] at hx1
      clear hvb
      obtain ⟨Ax, cx, rfl, hcx, hmx, hrx⟩ := Owns.form (.inl hx1)
      obtain ⟨wx, rfl⟩ : ∃ wx : World, wx = wr := ⟨_, rfl⟩
      have hz0 := hb0.size
      go_wp2
      go_loopw [6, 10] (fun vb i wr => ∃ k : Nat, k ≤ m ∧ i = .int .i64 k ∧ wr.ownsRow wx.heap.size 5 1 vb (endAt ms k) (bc (putsL (ms.take k))) ∧ Below wx.heap.size wx wr) (fun _ i _ => m - (intOf i).toNat)
      case atStart => exact ⟨0, Nat.zero_le _, rfl, by rw [endAt_zero]; exact World.ownsRow_nil _ _ _ _, Below.refl _ _⟩
      case round =>
        obtain ⟨k, hk, rfl, hvb, hby⟩ := hrel
        have hzy := hby.size
        have hb0y := hb0.trans (hby.mono hz0)
        by_cases hlt : k < m
        · obtain ⟨ad, u, rfl, hu, hca⟩ := (ha2.below hb0y).at' hlt
          obtain ⟨l, hl⟩ : ∃ l, ms[k]? = some l := ⟨_, List.getElem?_eq_getElem (by have := HL2.out; omega)⟩
          obtain ⟨A1, c1, rfl, hc1, hm1, hr1⟩ := hv2.2 k u l hu hl
          have hr2 := (hr1.below hb0y).more (show w.heap.size ≤ wr.heap.size by omega)
          have hlen := HQ2.out l (List.mem_of_getElem? hl)
          have hek := HE2.out k
          have HK := Lib.hid (HS2.out k l hl)
          have HX := Lib.hid hl
          have HPL := Lib.hid (putL_length l)
          clear hu hl
          go_wp2_with fail
          refine (fput_yes A1 _ c1 l _ hr2 (by omega)).mono ?_
          rintro e w3 ⟨A2, c2, rfl, ho2, hb2⟩
          have hz2 := hb2.size
          have hpl : (putL l).length ≤ 4000 ∧ 0 < (putL l).length := by rw [HPL.out]; omega
          obtain ⟨hpl1, hpl2⟩ := hpl
          have hvb2 := own_below hvb hb2 (Nat.le_refl _)
          clear hvb
          go_wp2_with (at_builtin; refine app_own_bytes _ rfl (.tmp 73) (.tmp 74) rfl wx.heap.size _ _ _ rfl hvb2 _ _ _ _ _ rfl ho2 hpl2 (by omega) (by omega) ?_; intro v3 w4 ho3 hg3 hb3)
          have e1 : endAt ms (k + 1) = endAt ms k + (putL l).length := by rw [HK.out, HPL.out]
          have hvb5 : w4.ownsRow wx.heap.size 5 1 v3 (endAt ms (k + 1)) (bc (putsL (ms.take (k + 1)))) := by
            rw [e1, putsL_snoc HX.out, bc, Lib.byteCells_append]; exact ho3
          have HV := Lib.hid hvb5
          have HB : Hid (Below wx.heap.size wx w4) := (hby.trans (hb2.mono hzy)).trans hb3
          clear hvb5 e1
          go_roundw
          case rel => exact ⟨k + 1, by omega, by go_num, HV.out, HB.out⟩
          case measure => simp [intOf]; omega
        · obtain rfl : m = k := by omega
          clear hlt
          have hy1 := hvb
          rw [List.take_of_length_le (by rw [HL2.out]; exact Nat.le_refl _ : ms.length ≤ m)] at hy1
          clear hvb
          obtain ⟨Ay, cy, rfl, hcy, hmy, hry⟩ := Owns.form (.inl hy1)
          have hrx2 := (hrx.below hby).more hzy
          have hen := HE.out n
          have hem := HE2.out m
          have HSC := Lib.hid (scanL_puts ls (fun q hq => by have := HQ.out q hq; omega))
          have HSC2 := Lib.hid (scanL_puts (ls ++ ms) (fun q hq => by
            rcases List.mem_append.1 hq with h | h
            · have := HQ.out q h; omega
            · have := HQ2.out q h; omega))
          have HEN := Lib.hid (end_full HL.out)
          have HEM := Lib.hid (end_full HL2.out)
          go_wp2_with fail
          refine (scan_any _ _ _ _ _ hrx2 hcx hmx (by omega)).mono ?_
          rintro e w5 h5
          obtain ⟨A5, c5, vs5, rfl, ho5, hall5, hb5⟩ := h5.eq HSC.out
          clear h5
          rw [HL.out] at ho5 ⊢
          rw [← HEN.out]
          have hz5 := hb5.size
          have hrx5 := (hrx2.below hb5).more hz5
          have hry5 := (hry.below hb5).more hz5
          go_wp2_with (first
            | (at_builtin; refine app_bytes _ rfl (.tmp 83) (.tmp 84) rfl w5.heap.size _ 0 [] rfl (.inl (World.ownsRow_made w5 #[] 0 (Nat.le_refl _) (Nat.zero_le _) rfl)) w5.heap.size _ _ _ _ rfl (hrx5.alloc (Nat.le_refl _) _) (bc_one _) (by omega) (le_alloc (Nat.le_refl _)) ?_; intro v6 w6 ho6 hb6 hr6)
            | (at_builtin; refine app_bytes _ rfl (.tmp 85) (.tmp 86) rfl w5.heap.size _ _ _ rfl ho6 w5.heap.size _ _ _ _ rfl ((hry5.alloc (Nat.le_refl _) _).below hb6) (bc_one _) (by omega) (by have := hb6.size; simp at this; omega) ?_; intro v7 w7 ho7 hb7 hr7))
          have hb57 : Below w5.heap.size w5 w7 := (((Below.refl _ _).alloc (Nat.le_refl _) _).trans hb6).trans hb7
          obtain ⟨A7, c7, rfl, hc7, hm7, hr7'⟩ := ho7.form
          have e7 : [] ++ bc (putsL ls) ++ bc (putsL ms) = bc (putsL (ls ++ ms)) := by rw [putsL_append]; simp [Lib.byteCells]
          rw [e7] at hr7'
          clear ho6 ho7 hr6 hr7 hb6 hb7 e7
          refine (scan_any _ _ _ _ _ hr7' hc7 hm7 (by omega)).mono ?_
          rintro e w8 h8
          obtain ⟨A8, c8, vs8, rfl, ho8, hall8, hb8⟩ := h8.eq HSC2.out
          clear h8
          have HN8 : Hid ((ls ++ ms).length = n + m) := by unfold Hid; rw [List.length_append, HL.out, HL2.out]
          have HP8 : Hid ((putsL (ls ++ ms)).length = endAt ls n + endAt ms m) := by unfold Hid; rw [putsL_append, List.length_append, ← HEN.out, ← HEM.out]
          rw [HN8.out] at ho8 ⊢
          rw [HP8.out]
          have hz57 := hb57.size
          have hz8 := hb8.size
          have r5 := ((Reads.of_own ho5).below hb57).below (hb8.mono hz57)
          have b58 := hb57.trans (hb8.mono hz57)
          have a5 := hall5.reads.below b58
          have b08 := (hb0y.trans (hb5.mono hb0y.size)).trans (b58.mono (by have := hb0y.size; omega))
          have ra := ha.below b08
          have aa := hv.below b08
          have rb := ha2.below b08
          have ab := hv2.below b08
          have r8 := Reads.of_own ho8
          have a8 := hall8.reads
          obtain ⟨_, c8', hv8, hc8, hm8, _⟩ := Owns.form (.inl ho8)
          injection hv8 with hA8 _ hc8'
          subst hA8 hc8'
          have HT := Lib.hid ((r8.take_ (k := n) (by omega)).drewN 0)
          have HDp : Hid (c8 = n → Reads w8 w8.heap.size 1 A8 m (vs8.drop n)) := fun e => by
            have h := r8.cut (k := n) (cap := c8) (by omega) (by omega)
            rw [if_pos e, Nat.mul_one, Nat.add_sub_cancel_left] at h; exact h
          have HDn : Hid (¬ c8 = n → Reads w8 w8.heap.size 1 (Option.map (fun x => x.add n) A8) m (vs8.drop n)) := fun e => by
            have h := r8.cut (k := n) (cap := c8) (by omega) (by omega)
            rw [if_neg e, Nat.mul_one, Nat.add_sub_cancel_left] at h; exact h
          have AT := Lib.hid (a8.take_ n)
          have AD := Lib.hid (a8.drop_ n)
          have hn8 : n ≤ c8 := by omega
          clear r8 a8
          go_wp2_with fail
          refine (rows_same _ _ _ _ _ _ _ _ _ r5 ra a5 aa (by unfold maxLen; omega)).mono ?_
          rintro e w9 ⟨rfl, m9, rfl⟩
          go_wp2_with fail
          have rt := HT.out
          have at_ := AT.out
          rw [List.take_left' HL.out] at at_
          rw [Nat.mul_one] at rt
          refine (rows_same _ _ _ _ _ _ _ _ _ (rt.drewN m9) (ra.drewN m9) (at_.drewN m9) (aa.drewN m9) (by unfold maxLen; omega)).mono ?_
          rintro e w10 ⟨rfl, m10, rfl⟩
          clear rt at_
          go_wp2_with fail
          · have rd := HDp.out (by omega)
            have ad := AD.out
            rw [List.drop_left' HL.out] at ad
            refine (rows_same _ _ _ _ _ _ _ _ _ (rd.drewN _) (rb.drewN _) (ad.drewN _) (ab.drewN _) (by unfold maxLen; omega)).mono ?_
            rintro e w11 ⟨rfl, m11, rfl⟩
            clear rd ad
            go_wp2_with (go_at_call 9; refine (awake_any _).mono ?_; rintro e w' ⟨rfl, hb⟩)
            go_ret
            exact RetTrue.from (below_drewN b08 _) ⟨rfl, hb⟩
          · have rd := HDn.out (by omega)
            have ad := AD.out
            rw [List.drop_left' HL.out] at ad
            refine (rows_same _ _ _ _ _ _ _ _ _ (rd.drewN _) (rb.drewN _) (ad.drewN _) (ab.drewN _) (by unfold maxLen; omega)).mono ?_
            rintro e w11 ⟨rfl, m11, rfl⟩
            clear rd ad
            go_wp2_with (go_at_call 9; refine (awake_any _).mono ?_; rintro e w' ⟨rfl, hb⟩)
            go_ret
            exact RetTrue.from (below_drewN b08 _) ⟨rfl, hb⟩
end Go.Proofs.Ytpacbdfingbhgaa
