/- The walk of the law FrameFlips. No condition. -/
import Derived.Test.YtpacbdfingbhgaaFrameLaws2
import Derived.Deep.RegionLaw
namespace Go.Proofs.Ytpacbdfingbhgaa
open Go.RowKit
set_option linter.unusedVariables false

theorem Reads.set_ {w : World} {B n g k : Nat} {l : List UInt8} (h : Reads w B 1 (some ⟨g, 0, none⟩) n (bc l)) (hk : k < n) (b' : UInt8) :
    Reads (w.setCell ⟨g, k, none⟩ (.int .u8 (b'.toNat : Int))) B 1 (some ⟨g, 0, none⟩) n (bc (l.set k b')) := by
  have hl : l.length = n := by have := h.1; rw [bc_length] at this; omega
  refine ⟨by rw [bc_length, List.length_set]; omega, fun hn => ?_⟩
  obtain ⟨ad, e, hb, hc⟩ := h.2 hn
  injection e with e
  subst e
  refine ⟨_, rfl, hb, fun j u hu => ?_⟩
  have hadd : ∀ j, (⟨g, 0, none⟩ : Addr).add j = ⟨g, j, none⟩ := fun j => by unfold Addr.add; split <;> simp_all
  obtain ⟨b, hb1, rfl⟩ := bc_get hu
  rw [hadd]
  by_cases hjk : j = k
  · subst hjk
    have h0 := hc j (.int .u8 (l[j].toNat : Int)) (by simp [Lib.byteCells, List.getElem?_eq_getElem (show j < l.length by omega)])
    rw [hadd] at h0
    rw [List.getElem?_set_self (by omega)] at hb1
    injection hb1 with hb1
    subst hb1
    exact World.cell?_setCell_same _ _ _ h0
  · rw [World.cell?_setCell_other _ _ _ _ (fun e => by injection e; omega)]
    rw [List.getElem?_set_ne (by omega)] at hb1
    have h0 := hc j (.int .u8 (b.toNat : Int)) (by simp [Lib.byteCells, hb1])
    rwa [hadd] at h0
theorem xor_byte (b : UInt8) (y : Nat) (hy : y < 255) : ∃ b' : UInt8, bits .xor .u8 (b.toNat : Int) ((y : Int) + 1) = (b'.toNat : Int) ∧ b ≠ b' := by
  have hb := b.toNat_lt
  have hlt : b.toNat ^^^ (y + 1) < 2 ^ 8 := Nat.xor_lt_two_pow (by omega) (by omega)
  have ht : ((b.toNat ^^^ (y + 1)).toUInt8).toNat = b.toNat ^^^ (y + 1) := Lib.toUInt8_toNat (by omega)
  refine ⟨(b.toNat ^^^ (y + 1)).toUInt8, ?_, fun h => ?_⟩
  · rw [show ((y : Int) + 1) = ((y + 1 : Nat) : Int) from by omega, u8_xor_nat _ _ (by omega) (by omega), ht]
  · rw [← h] at ht
    have h2 : (0 : Nat) ^^^ b.toNat = (y + 1) ^^^ b.toNat := by rw [Nat.zero_xor, Nat.xor_comm]; exact ht
    have := xor_cancel h2
    omega
theorem flip_set (p : List UInt8) (r : Nat) (b b' : UInt8) (hr : r < p.length) (hb : (putL p)[4 + r]? = some b) (hne : b ≠ b') (hp : p.length ≤ 131072) : nextL ((putL p).set (4 + r) b') = ([], 0, 3) := by
  have hpr : p[r]? = some b := by
    unfold putL at hb
    rw [List.append_assoc, List.getElem?_append_right (by rw [le4_length]; omega), le4_length, Nat.add_sub_cancel_left, List.getElem?_append_left hr] at hb
    exact hb
  have e : p = p.take r ++ b :: p.drop (r + 1) := by
    conv => lhs; rw [← List.take_append_drop r p]
    rw [List.drop_eq_getElem_cons hr]
    rw [List.getElem?_eq_getElem hr] at hpr
    injection hpr with hpr
    rw [hpr]
  have hf := next_flip (p.take r) (p.drop (r + 1)) hne (by rw [← e]; exact hp)
  rw [← e] at hf
  rw [← hf]
  congr 1
  have e2 : (p.set r b') = p.take r ++ b' :: p.drop (r + 1) := by rw [List.set_eq_take_append_cons_drop, if_pos hr]
  rw [← e2]
  unfold putL
  rw [List.append_assoc, List.set_append_right _ _ (by rw [le4_length]; omega), le4_length, Nat.add_sub_cancel_left, List.set_append_left _ _ hr, List.append_assoc]

set_option maxRecDepth 100000 in
set_option maxHeartbeats 1600000 in
theorem frameFlips_walk (w : World) (A : Option Addr) (n c : Nat) (p : List UInt8) (ha : Reads w w.heap.size 1 A n (bc p)) (hnc : n ≤ c) (hc : c ≤ maxLen) (at' : Int) (hat : (Lit.int .i64 at').wf = true) (x : Int) (hx : (Lit.int .i64 x).wf = true) :
    Calls Try.prog 4 #[.slice A n c, .int .i64 at', .int .i64 x] w (RetTrue w) := by
  clear hat hx
  by_cases hl : 3000 < n
  · go_enter Try.func4, Try.ntmps4
    go_wp2_with (go_at_call 9; refine (awake_any _).mono ?_; rintro e w' ⟨rfl, hb⟩)
    go_ret
    exact ⟨rfl, hb⟩
  by_cases h0 : n ≤ 0
  · have hz : ((n : Int) == 0) = true := by rw [beq_iff_eq]; omega
    have hl' : n ≤ 3000 := by omega
    clear hl
    go_enter Try.func4, Try.ntmps4
    go_wp2_with (go_at_call 9; refine (awake_any _).mono ?_; rintro e w' ⟨rfl, hb⟩)
    go_ret
    exact ⟨rfl, hb⟩
  have hn : n ≤ 3000 := by omega
  have hn0 : 0 < n := by omega
  have hz : ((n : Int) == 0) = false := by rw [beq_eq_false_iff_ne]; omega
  clear hl h0
  have HL : Hid (p.length = n) := by have := ha.1; rw [bc_length] at this; unfold Hid; omega
  obtain ⟨r, hr, hrn⟩ : ∃ r : Nat, roundZ at' (n : Int) = r ∧ r < n := by
    have h := roundZ_bd at' (n : Int) (by omega)
    obtain ⟨r, hr⟩ := Int.eq_ofNat_of_zero_le h.1
    exact ⟨r, hr, by omega⟩
  obtain ⟨y, hy, hyn⟩ : ∃ y : Nat, roundZ x 255 = y ∧ y < 255 := by
    have h := roundZ_bd x 255 (by omega)
    obtain ⟨r, hr⟩ := Int.eq_ofNat_of_zero_le h.1
    exact ⟨r, hr, by omega⟩
  have HR := Lib.hid hr
  have HY := Lib.hid hy
  have HPL : Hid ((putL p).length = n + 8) := by unfold Hid; rw [putL_length, HL.out]
  clear hr hy
  go_enter Try.func4, Try.ntmps4
  go_wp2_with fail
  refine (fput_yes A n c p _ ha (by omega)).mono ?_
  rintro e w1 ⟨A1, c1, rfl, ho1, hb1⟩
  rw [HPL.out] at ho1 ⊢
  obtain ⟨g, c1', hv, hc1, hm1, hg0, hg1, hcell⟩ := own_open ho1 (by omega)
  injection hv with e1 e2 e3
  subst e1 e3
  have hr1 := Reads.of_own ho1
  have hq : (((n + 8 : Nat) : Int) != (n : Int) + 8) = false := by rw [bne_eq_false_iff_eq]; omega
  go_wp2_with fail
  refine (round_any at' _ _ (by omega) (by omega)).mono ?_
  rintro e w' ⟨he, rfl⟩
  rw [HR.out] at he
  subst he
  obtain ⟨b, hb⟩ : ∃ b, (putL p)[4 + r]? = some b := ⟨_, List.getElem?_eq_getElem (by rw [HPL.out]; omega)⟩
  have hcb := hcell (4 + r) (.int .u8 (b.toNat : Int)) (by simp [Lib.byteCells, hb])
  have HB := Lib.hid hb
  clear hb hcell
  go_wp2_with fail
  have i1 : (0 : Int) ≤ 4 + (r : Int) := by omega
  have i2 : 4 + (r : Int) < (n : Int) + 8 := by omega
  have i3 : (4 + (r : Int)).toNat = 4 + r := by omega
  go_still_tail 12, (by kernel_rfl)
  refine wpStill_step (fun K hK => ?_)
  go_simp
  refine ⟨.int .i64 (y : Int), (round_any x 255 _ (by omega) (by omega)).mono (fun _ _ h => ⟨by rw [h.1, HY.out], h.2.symm⟩), hK _ ?_⟩
  clear hK K
  repeat still_step
  refine wpStill_nil ?_
  have hcb' : w1.drew.cell? ⟨g, 4 + r, none⟩ = some (.int .u8 (b.toNat : Int)) := hcb
  have hfz : w1.drew.frozen? ⟨g, 4 + r, none⟩ = false := ho1.frozenAt _
  have hb1' : Below w.heap.size w w1.drew := hb1.drew
  have hr1' : Reads w1.drew w1.drew.heap.size 1 (some ⟨g, 0, none⟩) (n + 8) (bc (putL p)) := hr1
  have hg1' : g < w1.drew.heap.size := hg1
  clear hcb hb1 hr1 hg1
  change wpList _ _ _ _ _ w1.drew
  generalize w1.drew = w2 at *
  obtain ⟨b', hb', hne⟩ := xor_byte b y hyn
  have HX := Lib.hid hb'
  clear hb'
  have HF := Lib.hid (flip_set p r b b' (by have := HL.out; omega) HB.out hne (by have := HL.out; omega))
  have hr2 := hr1'.set_ (k := 4 + r) (by omega) b'
  have hb2 : Below w.heap.size w (w2.setCell ⟨g, 4 + r, none⟩ (.int .u8 (b'.toNat : Int))) := hb1'.setCell (by omega) _
  have hz2 : (w2.setCell ⟨g, 4 + r, none⟩ (.int .u8 (b'.toNat : Int))).heap.size = w2.heap.size := by simp [World.setCell]
  rw [← hz2] at hr2
  clear hz2 hr1' hb1' hne
  go_wp2_with fail
  rw [HX.out]
  refine (fnext_any _ _ _ _ _ hr2 hc1 hm1).mono ?_
  rintro e w3 ⟨A3, c3, he, ho3, hb3⟩
  rw [HF.out] at he
  simp only [List.length_nil] at he
  subst he
  clear ho3
  go_wp2_with (go_at_call 9; refine (awake_any _).mono ?_; rintro e w' ⟨rfl, hb⟩)
  go_ret
  exact RetTrue.from (hb2.trans (hb3.mono hb2.size)) ⟨rfl, hb⟩
end Go.Proofs.Ytpacbdfingbhgaa
