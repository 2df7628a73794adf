/- The walk of the law BitsBack. No condition. -/
import Derived.Test.YtanpkkpmaenhgaaBitsLaws2
import Derived.Test.YtanpkkpmaenhgaaBackPlain
namespace Go.Proofs.Ytanpkkpmaenhgaa
open Go.RowKit
set_option linter.unusedVariables false

theorem RetTake.eq {l : List UInt8} {w w' : World} {e : Ending} {s : ByteArray} {m : Nat} (h : RetTake l w e w') (ht : takeL l = (s.data.toList, m)) : e = .returned (.tuple #[.string s, .int .i64 m]) ∧ w = w' := by
  obtain ⟨h1, h2⟩ := h
  rw [ht] at h1
  exact ⟨h1, h2⟩
theorem RetTake.none_ {l : List UInt8} {w w' : World} {e : Ending} (h : RetTake l w e w') (ht : takeL l = ([], 0)) : e = .returned (.tuple #[.string ⟨#[]⟩, .int .i64 0]) ∧ w = w' := by
  obtain ⟨h1, h2⟩ := h
  rw [ht] at h1
  exact ⟨h1, h2⟩

set_option maxRecDepth 100000 in
set_option maxHeartbeats 1600000 in
theorem bitsBack_walk (w : World) (v : Int) (hv : (Lit.int .u64 v).wf = true) (s : ByteArray) (hs : s.size ≤ maxLen) (A : Option Addr) (n c : Nat) (l : List UInt8) (ha : Reads w w.heap.size 1 A n (bc l)) (hnc : n ≤ c) (hc : c ≤ maxLen) (cut : Int) (hcut : (Lit.int .i64 cut).wf = true) :
    Calls Try.prog 8 #[.int .u64 v, .string s, .slice A n c, .int .i64 cut] w (RetTrue w) := by
  obtain ⟨x, rfl, hx⟩ := wf_u64_nat hv
  clear hv hcut
  by_cases hl : 1000 < s.size
  · go_enter Try.func8, Try.ntmps8
    go_wp2_with (go_at_call 9; refine (awake_any _).mono ?_; rintro e w' ⟨rfl, hb⟩)
    go_ret
    exact ⟨rfl, hb⟩
  by_cases hl' : 1000 < n
  · have hl2 : s.size ≤ 1000 := by omega
    clear hl
    go_enter Try.func8, Try.ntmps8
    go_wp2_with (go_at_call 9; refine (awake_any _).mono ?_; rintro e w' ⟨rfl, hb⟩)
    go_ret
    exact ⟨rfl, hb⟩
  have hn' : n ≤ 1000 := by omega
  have hs' : s.size ≤ 1000 := by omega
  clear hl hl'
  have hp := Lib.uvarint_pos x
  have hlen := Lib.uvarint_length64 hx
  have hp2 := Lib.uvarint_pos s.size
  have hlen2 := Lib.uvarint_length64 (show s.size < 18446744073709551616 by omega)
  have HU := Lib.hid (unv_back x s l hx)
  have HT := Lib.hid (take_back s l (by omega))
  have HC := Lib.hid (fun k => take_cut s k (by omega))
  have HL1 : Hid ((textL (Lib.uvarint x) s).length = (Lib.uvarint x).length + (textL [] s).length) := by unfold Hid; rw [textL_eq, List.length_append]
  have HL2 : Hid ((textL [] s).length = (Lib.uvarint s.size).length + s.size) := by unfold Hid; rw [textL_nil, List.length_append, size_toList]
  have HL : Hid (l.length = n) := by have := ha.1; rw [bc_length] at this; unfold Hid; omega
  have hL1 : (textL (Lib.uvarint x) s).length ≤ 2000 ∧ (Lib.uvarint x).length < (textL (Lib.uvarint x) s).length := by rw [HL1.out, HL2.out]; omega
  obtain ⟨hL1, hL2⟩ := hL1
  go_enter Try.func8, Try.ntmps8
  go_wp2_with fail
  refine (varint_any x _ hx).mono ?_
  rintro e w1 h1
  obtain ⟨A1, c1, rfl, ho1, hb1, hc1, hm1, hr1⟩ := h1.open_
  clear h1 ho1
  go_wp2_with fail
  refine (text_any A1 _ c1 _ s _ hr1 (by omega) (by omega)).mono ?_
  rintro e w2 h2
  obtain ⟨v2, rfl, ho2, hb2'⟩ := h2
  have hb2 := hb1.trans (hb2'.mono hb1.size)
  obtain ⟨g, c2, rfl, hc2, hm2, hg0, hg1, hcell2⟩ := own_open ho2 (by omega)
  have hr2 := Reads.of_own ho2
  have ha2 := ha.below hb2
  clear hcell2 hb1 hb2' hr1 ha
  have hz2 := hb2.size
  go_wp2_with (first
    | (at_builtin; refine app_bytes _ rfl (.tmp 30) (.tmp 31) rfl w2.heap.size _ 0 [] rfl (.inl (World.ownsRow_made w2 #[] 0 (Nat.le_refl _) (Nat.zero_le _) rfl)) w2.heap.size _ _ _ _ rfl (hr2.alloc (Nat.le_refl _) _) (bc_one _) (by omega) (le_alloc (Nat.le_refl _)) ?_; intro v3 w3 ho3 hb3 hr3)
    | (at_builtin; refine app_bytes _ rfl (.tmp 32) (.tmp 33) rfl w2.heap.size _ _ _ rfl ho3 w2.heap.size _ n _ _ rfl (((ha2.more hz2).alloc (Nat.le_refl _) _).below hb3) (bc_one _) (by omega) (by have := hb3.size; simp at this; omega) ?_; intro v4 w4 ho4 hb4 hr4))
  have hb24 : Below w2.heap.size w2 w4 := (((Below.refl _ _).alloc (Nat.le_refl _) _).trans hb3).trans hb4
  obtain ⟨A4, c4, rfl, hc4, hm4, hr4'⟩ := ho4.form
  have e4 : [] ++ bc (textL (Lib.uvarint x) s) ++ bc l = bc (textL (Lib.uvarint x) s ++ l) := by simp [Lib.byteCells]
  rw [e4] at hr4'
  clear ho3 ho4 hr3 hr4 hb3 hb4 e4
  refine (unvar_any A4 _ c4 _ _ hr4' (by unfold maxLen; omega)).mono ?_
  rintro e w' h'
  obtain ⟨rfl, rfl⟩ := h'.eq HU.out
  clear h' hr4'
  have hr5 := hr2.below hb24
  have ha5 := (ha2.more hz2).below hb24
  have hz5 := hb24.size
  have hcut1 : Reads w4 w2.heap.size 1 (some ⟨g, (Lib.uvarint x).length, none⟩) ((textL (Lib.uvarint x) s).length - (Lib.uvarint x).length) (bc (textL [] s)) := by
    have h := hr5.cut (k := (Lib.uvarint x).length) (cap := c2) (by omega) hc2
    rw [if_neg (by omega), Option.map_some] at h
    have e : (bc (textL (Lib.uvarint x) s)).drop (Lib.uvarint x).length = bc (textL [] s) := by
      rw [textL_eq]; simp [Lib.byteCells]
    rw [Nat.mul_one, e] at h
    have hadd : (⟨g, 0, none⟩ : Addr).add (Lib.uvarint x).length = ⟨g, (Lib.uvarint x).length, none⟩ := by unfold Addr.add; split <;> simp_all
    rwa [hadd] at h
  go_wp2_with (first
    | (at_builtin; refine app_bytes _ rfl (.tmp 52) (.tmp 55) rfl w4.heap.size _ 0 [] rfl (.inl (World.ownsRow_made w4 #[] 0 (Nat.le_refl _) (Nat.zero_le _) rfl)) w4.heap.size _ _ _ _ rfl ((hcut1.more hz5).alloc (Nat.le_refl _) _) (bc_one _) (by omega) (le_alloc (Nat.le_refl _)) ?_; intro v5 w5 ho5 hb5 hr5')
    | (at_builtin; refine app_bytes _ rfl (.tmp 56) (.tmp 57) rfl w4.heap.size _ _ _ rfl ho5 w4.heap.size _ n _ _ rfl (((ha5.more hz5).alloc (Nat.le_refl _) _).below hb5) (bc_one _) (by omega) (by have := hb5.size; simp at this; omega) ?_; intro v6 w6 ho6 hb6 hr6))
  have hb46 : Below w4.heap.size w4 w6 := (((Below.refl _ _).alloc (Nat.le_refl _) _).trans hb5).trans hb6
  obtain ⟨A6, c6, rfl, hc6, hm6, hr6'⟩ := ho6.form
  have e6 : [] ++ bc (textL [] s) ++ bc l = bc (textL [] s ++ l) := by simp [Lib.byteCells]
  rw [e6] at hr6'
  clear ho5 ho6 hr5' hr6 hb5 hb6 e6
  have hq : (((textL [] s).length : Int) == ((textL (Lib.uvarint x) s).length : Int) - ((Lib.uvarint x).length : Int)) = true := by
    rw [beq_iff_eq, HL1.out]; omega
  refine (take_any A6 _ c6 _ _ hr6' hc6 hm6).mono ?_
  rintro e w' h'
  obtain ⟨rfl, rfl⟩ := h'.eq HT.out
  clear h' hr6'
  obtain ⟨r, hr, hrlt⟩ : ∃ r : Nat, roundZ cut (((textL (Lib.uvarint x) s).length : Int) - ((Lib.uvarint x).length : Int)) = r ∧ r < (textL (Lib.uvarint x) s).length - (Lib.uvarint x).length := by
    have h := roundZ_bd cut (((textL (Lib.uvarint x) s).length : Int) - ((Lib.uvarint x).length : Int)) (by omega)
    obtain ⟨r, hr⟩ := Int.eq_ofNat_of_zero_le h.1
    exact ⟨r, hr, by omega⟩
  have HR := Lib.hid hr
  clear hr
  have hcut2 := ((hcut1.more hz5).below hb46).take_ (k := r) (by omega)
  have ec : (bc (textL [] s)).take (r * 1) = bc ((textL [] s).take r) := by simp [Lib.byteCells, ← List.map_take]
  rw [ec] at hcut2
  have HC' := Lib.hid (HC.out r (by have := HL1.out; omega))
  clear ec HC
  go_wp2_with fail
  refine (round_any cut _ _ (by omega) (by omega)).mono ?_
  rintro e w' ⟨he, rfl⟩
  rw [HR.out] at he
  subst he
  have hcc : c2 - (Lib.uvarint x).length ≤ maxLen := by omega
  have hrc : r ≤ c2 - (Lib.uvarint x).length := by omega
  unfold maxLen at hm2
  go_wp2_with fail
  refine (take_any _ _ _ _ _ hcut2 hrc hcc).mono ?_
  rintro e w' h'
  obtain ⟨rfl, rfl⟩ := h'.none_ HC'.out
  go_wp2_with (go_at_call 9; refine (awake_any _).mono ?_; rintro e w' ⟨rfl, hb⟩)
  go_ret
  exact RetTrue.from ((hb2.trans (hb24.mono hz2)).trans (hb46.mono (by omega))) ⟨rfl, hb⟩
end Go.Proofs.Ytanpkkpmaenhgaa
