/- The walk of the reference session's Recv. No condition. -/
import Derived.Test.YtchhejheobceiaaSesK
namespace Go.Proofs.Ytchhejheobceiaa
open Go.RowKit
set_option linter.unusedVariables false

def RsRec (B : Nat) (w : World) (a : Nat) (v : Value) (s : Se) (w' : World) : Prop := ∃ v' vs', RsAt B w' a v' vs' s ∧ Kept (foot a v) w w' ∧ ∀ g, v'.ownBlock = some g → v.ownBlock = some g
/-- What the reference's Recv hands back and leaves. -/
def RetRRecv (B : Nat) (w : World) (a : Nat) (v : Value) (r : Se × List (List UInt8) × List (List UInt8) × Nat) (e : Ending) (w' : World) : Prop :=
  ∃ g o, e = .returned (.tuple #[g, o, .int .i64 (r.2.2.2 : Int)]) ∧ RowsAt w' w.heap.size g r.2.1 ∧ RowsAt w' w.heap.size o r.2.2.1 ∧ RsRec B w a v r.1 w'
def eyeCells (A : Option Addr) (n c i : Nat) (f : Bool) : List Value := [.slice A n c, .int .i64 i, .bool f]
theorem EyeAt.range {w : World} {g n c i : Nat} {A : Option Addr} {l : List UInt8} {bad : Bool} (h : EyeAt w g A n c l i bad) : w.rangeAt g 0 (eyeCells A n c i bad) := fun j v hv => by
  rw [Nat.zero_add, cell_of_row w g j _ _ (0, 0) h.cell]
  simpa [eyeCells] using hv
def waitLen (w : World) (a : Nat) : Nat := match w.cell? ⟨a, 3, none⟩ with
  | some (.slice _ n _) => n
  | _ => 0
section
variable (B : Nat) (w : World) (a : Nat) (v : Value) (vs : List Value) (s : Se) (h : RsAt B w a v vs s) (hok : s.Ok) (A : Option Addr) (n c : Nat) (l : List UInt8) (hr : Reads w w.heap.size 1 A n (bc l)) (hnc : n ≤ c) (hc : c ≤ maxLen)
include h hok hr hnc hc
set_option maxRecDepth 100000 in
set_option maxHeartbeats 8000000 in
theorem rrecv_any (hB : B ≤ w.heap.size) : Calls Try.prog 28 #[.pointer (some ⟨a, 0, none⟩), .slice A n c] w (RetRRecv B w a v (recvL s l)) := by
  have HS := Lib.hid h
  have HOK := Lib.hid hok
  have hln : l.length = n := by have := hr.1; rw [bc_length] at this; omega
  have HLN := Lib.hid hln
  obtain ⟨⟨b, fl, kd⟩, HP⟩ : ∃ p, Hid (nextL l = p) := ⟨_, Lib.hid rfl⟩
  have HPL := Lib.hid (parseL_of HP.out)
  have HN1 := Lib.hid (refFnext_any A n c l w hr hnc hc)
  unfold RetNext at HN1
  rw [HP.out] at HN1
  simp only at HN1
  obtain ⟨bl, HBL⟩ : ∃ bl, Hid (b.length = bl) := ⟨_, Lib.hid rfl⟩
  simp only [HBL.out] at HN1
  have HBLM : Hid (bl ≤ 131072) := Lib.hid (by have := nextL_body l; rw [HP.out] at this; simp only [HBL.out] at this; exact this)
  have hal := h.lt
  have hmx : n ≤ 9223372036854775807 := by unfold maxLen at hc; omega
  clear h hok hr hln HP
  go_enter Try.func28, Try.ntmps28
  have hways : ((kd : Int) != 1) = true ∨ (((kd : Int) != 1) = false ∧ (((fl : Int) != (n : Int)) = true ∨ ((fl : Int) != (n : Int)) = false)) := by
    by_cases h1 : kd = 1
    · right
      refine ⟨by simp [h1], ?_⟩
      by_cases h2 : fl = n
      · right; simp [h2]
      · left; simp; omega
    · left; simp; omega
  rcases hways with k1 | ⟨k1, k2 | k2⟩
  · have HREC : Hid (recvL s l = (s, [], [], 10)) := Lib.hid (by
      unfold recvL
      rw [HPL.out, if_pos (.inl (fun e => by rw [e] at k1; simp at k1))])
    rw [HREC.out]
    go_wp2_with (first
      | (refine wpList_unguard rfl ?_)
      | (go_at_call 35; ((with_reducible refine HN1.out.mono ?_); rintro e w2 ⟨A2, c2, rfl, ho2, hbw2⟩)))
    go_ret3
    exact ⟨_, _, rfl, rows_nil _ _, rows_nil _ _, v, vs, HS.out.grow hbw2, Kept.of_below hbw2, fun g hg => hg⟩
  · have HREC : Hid (recvL s l = (s, [], [], 10)) := Lib.hid (by
      unfold recvL
      rw [HPL.out, if_pos (.inr (fun e => by rw [HLN.out] at e; rw [e] at k2; simp at k2))])
    rw [HREC.out]
    go_wp2_with (first
      | (refine wpList_unguard rfl ?_)
      | (go_at_call 35; ((with_reducible refine HN1.out.mono ?_); rintro e w2 ⟨A2, c2, rfl, ho2, hbw2⟩)))
    go_ret3
    exact ⟨_, _, rfl, rows_nil _ _, rows_nil _ _, v, vs, HS.out.grow hbw2, Kept.of_below hbw2, fun g hg => hg⟩
  have HPAR : Hid (parseL l = bodyOf b) := Lib.hid (by
    have e1 : (kd : Int) = 1 := by simpa using k1
    have e2 : (fl : Int) = (n : Int) := by simpa using k2
    rw [HPL.out, if_neg (by rw [HLN.out]; omega)])
  clear HPL
  go_upto_region 4 with (first
    | (refine wpList_unguard rfl ?_)
    | (go_at_call 35; ((with_reducible refine HN1.out.mono ?_); rintro e w2 ⟨A2, c2, rfl, ho2, hbw2⟩)))
  clear HN1 k1 k2
  have HROW2 := Lib.hid (show Row w2 w.heap.size 5 (.slice A2 bl c2) bl (bc b) from Row.of_own ho2)
  have HS2 := Lib.hid (HS.out.grow hbw2)
  have HB2 := Lib.hid hbw2
  have hs2 := hbw2.size
  clear ho2 hbw2
  obtain ⟨x1, i1, b1, x2, i2, b2, x3, i3, b3, x4, i4, b4, y, i5, b5, h1, h2, h3, h4, h5, h6⟩ := eye_all b
  have HF5 := Lib.hid h6
  have HE0 : Hid (∀ W, W = w2.alloc (.cells #[.slice A2 bl c2, .int .i64 0, .bool false] 79) → EyeAt W w2.heap.size A2 bl c2 b 0 false) := Lib.hid (by
    intro W hW
    subst hW
    obtain ⟨A', c', e, g1, g2, g3⟩ := HROW2.out.form
    injection e with e1 e2 e3
    subst e1 e3
    exact ⟨heap_alloc_new w2 _, g3.alloc (Nat.le_refl _) _, Nat.zero_le _, g1, g2⟩)
  have HC1 : Hid (∀ W, EyeAt W w2.heap.size A2 bl c2 b 0 false → Calls Try.prog 36 #[.pointer (some ⟨w2.heap.size, 0, none⟩), .int .i64 1099511627776] W (EyeNow W w2.heap.size A2 bl c2 b (x1, i1, b1))) := Lib.hid fun W hW => by rw [← h1]; exact eye_num W _ _ _ _ _ _ _ hW
  have HC2 : Hid (∀ W, EyeAt W w2.heap.size A2 bl c2 b i1 b1 → Calls Try.prog 36 #[.pointer (some ⟨w2.heap.size, 0, none⟩), .int .i64 1099511627776] W (EyeNow W w2.heap.size A2 bl c2 b (x2, i2, b2))) := Lib.hid fun W hW => by rw [← h2]; exact eye_num W _ _ _ _ _ _ _ hW
  have HC3 : Hid (∀ W, EyeAt W w2.heap.size A2 bl c2 b i2 b2 → Calls Try.prog 36 #[.pointer (some ⟨w2.heap.size, 0, none⟩), .int .i64 1099511627776] W (EyeNow W w2.heap.size A2 bl c2 b (x3, i3, b3))) := Lib.hid fun W hW => by rw [← h3]; exact eye_num W _ _ _ _ _ _ _ hW
  have HC4 : Hid (∀ W, EyeAt W w2.heap.size A2 bl c2 b i3 b3 → Calls Try.prog 36 #[.pointer (some ⟨w2.heap.size, 0, none⟩), .int .i64 1099511627776] W (EyeNow W w2.heap.size A2 bl c2 b (x4, i4, b4))) := Lib.hid fun W hW => by rw [← h4]; exact eye_num W _ _ _ _ _ _ _ hW
  have HC5 : Hid (∀ W, EyeAt W w2.heap.size A2 bl c2 b i4 b4 → Calls Try.prog 37 #[.pointer (some ⟨w2.heap.size, 0, none⟩)] W (EyeNow W w2.heap.size A2 bl c2 b (y, i5, b5))) := Lib.hid fun W hW => by rw [← h5]; exact eye_byte W _ _ _ _ _ _ _ hW
  clear h1 h2 h3 h4 h5 h6
  go_upto_region 10 with (first
    | (go_at_call 36; ((with_reducible refine (HC1.out _ (HE0.out _ rfl)).mono ?_); rintro e w3 ⟨rfl, he3, hk3⟩; have HE3 := Lib.hid he3; have HK3 := Lib.hid hk3; clear he3 hk3))
    | (go_at_call 36; ((with_reducible refine (HC2.out _ HE3.out).mono ?_); rintro e w4 ⟨rfl, he4, hk4⟩; have HE4 := Lib.hid he4; have HK4 := Lib.hid hk4; clear he4 hk4))
    | (go_at_call 36; ((with_reducible refine (HC3.out _ HE4.out).mono ?_); rintro e w5 ⟨rfl, he5, hk5⟩; have HE5 := Lib.hid he5; have HK5 := Lib.hid hk5; clear he5 hk5))
    | (go_at_call 36; ((with_reducible refine (HC4.out _ HE5.out).mono ?_); rintro e w6 ⟨rfl, he6, hk6⟩; have HE6 := Lib.hid he6; have HK6 := Lib.hid hk6; clear he6 hk6))
    | (go_at_call 37; ((with_reducible refine (HC5.out _ HE6.out).mono ?_); rintro e W8 ⟨rfl, he8, hk8⟩; have HE8 := Lib.hid he8; have HK8 := Lib.hid hk8; clear he8 hk8)))
  have HW8 : Hid (RsAt B W8 a v vs s ∧ Below w.heap.size w W8 ∧ W8.rangeAt w2.heap.size 0 (eyeCells A2 bl c2 i5 b5) ∧ w2.heap.size < W8.heap.size ∧ OwnB W8 w.heap.size (.slice A2 bl c2) b ∧ bl ≤ c2 ∧ c2 ≤ 9223372036854775807) := Lib.hid (by
    have hka : Kept (fun k => k = w2.heap.size) w2 (w2.alloc (.cells #[.slice A2 bl c2, .int .i64 0, .bool false] 79)) := Kept.of_below ((Below.refl _ _).alloc (Nat.le_refl _) _)
    have hk : Kept (fun k => k = w2.heap.size) w2 W8 := ((((hka.trans HK3.out (fun _ _ e => e)).trans HK4.out (fun _ _ e => e)).trans HK5.out (fun _ _ e => e)).trans HK6.out (fun _ _ e => e)).trans HK8.out (fun _ _ e => e)
    have hb : Below w2.heap.size w2 W8 := hk.below (Nat.le_refl _) (fun b e => by omega)
    have hcm := HE8.out.cm
    unfold maxLen at hcm
    refine ⟨HS2.out.grow hb, HB2.out.trans (hb.mono hs2), HE8.out.range, HE8.out.lt, ?_, HE8.out.nc, hcm⟩
    show Row W8 w.heap.size 5 (.slice A2 bl c2) b.length (bc b)
    rw [HBL.out]
    exact HROW2.out.grow hb)
  clear HE0 HC1 HC2 HC3 HC4 HC5 HE3 HE4 HE5 HE6 HE8 HK3 HK4 HK5 HK6 HK8 HROW2 HS2 HB2 w3 w4 w5 w6
  obtain ⟨bg, HBG⟩ : ∃ bg, Hid (w2.heap.size = bg) := ⟨_, Lib.hid rfl⟩
  simp only [HBG.out] at HW8 hs2 ⊢
  clear HBG
  have z1 : W8.cell? ⟨bg, 1, none⟩ = some (.int .i64 i5) := HW8.out.2.2.1 1 _ rfl
  have z2 : W8.cell? ⟨bg, 2, none⟩ = some (.bool b5) := HW8.out.2.2.1 2 _ rfl
  have hy := HF5.out.byte
  have hi5 : i5 ≤ bl := by have := HF5.out.le; rwa [HBL.out] at this
  have HBAD : Hid (bodyOf b = none → recvL s l = (s, [], [], 10)) := Lib.hid (fun hh => by unfold recvL; rw [HPAR.out, hh])
  have HEND : Hid (RetRRecv B w a v (s, [], [], 10) (.returned (.tuple #[.slice none 0 0, .slice none 0 0, .int .i64 10])) W8) := Lib.hid
    ⟨_, _, rfl, rows_nil _ _, rows_nil _ _, v, vs, HW8.out.1, Kept.of_below HW8.out.2.1, fun g hg => hg⟩
  cases b5
  case true =>
    have HR := Lib.hid (HBAD.out (HF5.out.bad rfl))
    clear HBAD HPAR HF5
    go_wp2_with (refine wpList_unguard rfl ?_)
    go_ret3
    rw [HR.out]
    exact HEND.out
  case false =>
    have HG5 := Lib.hid (HF5.out.good rfl)
    rw [HBL.out] at HG5
    have hways : x1 < 1 ∨ (decide ((x1 : Int) < 1) = false ∧ 1 ≤ x1 ∧ (1 < y ∨ (decide ((1 : Int) < (y : Int)) = false ∧ (y = 0 ∧ i5 ≠ bl ∨ (y = 0 ∧ i5 = bl ∨ y = 1))))) := by
      by_cases h1 : x1 < 1
      · exact .inl h1
      · refine .inr ⟨by simp; omega, by omega, ?_⟩
        by_cases h2 : 1 < y
        · exact .inl h2
        · refine .inr ⟨by simp; omega, by omega⟩
    rcases hways with e1 | ⟨e1, e1', e2 | ⟨e2, e3 | e3⟩⟩
    · have HR := Lib.hid (HBAD.out (by rw [HG5.out, if_pos (.inl e1)]))
      have e1' : (x1 : Int) < 1 := by omega
      clear HBAD HPAR HF5 HG5
      go_wp2_with (refine wpList_unguard rfl ?_)
      go_ret3
      rw [HR.out]
      exact HEND.out
    · have HR := Lib.hid (HBAD.out (by rw [HG5.out, if_pos (.inr (.inl e2))]))
      have e2' : (1 : Int) < (y : Int) := by omega
      clear HBAD HPAR HF5 HG5
      go_wp2_with (refine wpList_unguard rfl ?_)
      go_ret3
      rw [HR.out]
      exact HEND.out
    · have HR := Lib.hid (HBAD.out (by rw [HG5.out, if_pos (.inr (.inr e3))]))
      have k3 : ((y : Int) == 0) = true := by simp; omega
      have k4 : ((i5 : Int) != (bl : Int)) = true := by simp; omega
      clear HBAD HPAR HF5 HG5
      go_wp2_with (refine wpList_unguard rfl ?_)
      go_ret3
      rw [HR.out]
      exact HEND.out
    · have HPS : Hid (parseL l = some (⟨x1, x2, x3, x4, y == 1⟩, b.drop i5)) := Lib.hid (by rw [HPAR.out, HG5.out, if_neg (by omega)])
      have HFAR := Lib.hid HF5.out.far
      clear HBAD HPAR HF5 HG5 HEND
      obtain ⟨m, HM⟩ : ∃ m, Hid (b.drop i5 = m) := ⟨_, Lib.hid rfl⟩
      rw [HM.out] at HPS
      obtain ⟨Wa, rfl⟩ : ∃ W, W = W8 := ⟨W8, rfl⟩
      go_cut [69] from 18 (fun s69 wx => s69 = .bool false ∧ wx = Wa)
      case first =>
        rcases e3 with ⟨e3, e4⟩ | e3
        · have k3 : ((y : Int) == 0) = true := by simp; omega
          have k4 : ((i5 : Int) != (bl : Int)) = false := by simp; omega
          clear e3 e4
          go_wp2_with (refine wpList_unguard rfl ?_)
          go_meet
          exact ⟨rfl, rfl⟩
        · have k3 : ((y : Int) == 0) = false := by simp; omega
          clear e3
          go_wp2_with (refine wpList_unguard rfl ?_)
          go_meet
          exact ⟨rfl, rfl⟩
      case rest =>
        obtain ⟨rfl, rfl⟩ := hcut
        clear z2
        obtain ⟨Hf, HHF⟩ : ∃ f, Hid ((y == 1) = f) := ⟨_, Lib.hid rfl⟩
        rw [HHF.out] at HPS
        have HREC : Hid (recvL s l = if x1 < s.peer then (s, [], [], 0)
          else if x2 ≠ 0 ∧ x2 ≠ s.life then (s.meet x1, [], s.meetOut x1, 0)
          else if Hf = false then ((s.meet x1).acked ⟨x1, x2, x3, x4, Hf⟩, [], s.meetOut x1, 0)
          else ((((s.meet x1).acked ⟨x1, x2, x3, x4, Hf⟩).take ⟨x1, x2, x3, x4, Hf⟩), (if x3 = ((s.meet x1).acked ⟨x1, x2, x3, x4, Hf⟩).took + 1 then [m] else []), s.meetOut x1 ++ [pktL (((s.meet x1).acked ⟨x1, x2, x3, x4, Hf⟩).take ⟨x1, x2, x3, x4, Hf⟩) 0 false []], 0)) := Lib.hid (by unfold recvL; rw [HPS.out])
        have hyf : (y = 0 ∧ Hf = false) ∨ (y = 1 ∧ Hf = true) := by
          have := HHF.out
          rcases e3 with ⟨h, _⟩ | h
          · subst h; left; exact ⟨rfl, this.symm⟩
          · subst h; right; exact ⟨rfl, this.symm⟩
        clear HPS HHF e2 e3 hy
        obtain ⟨d0, d1, d2, d3, d4⟩ := HW8.out.1.cells_
        obtain ⟨sl, sp, st, sf, sw⟩ := s
        simp only at d0 d1 d2 d4 HREC
        by_cases hlt : x1 < sp
        · go_wp2
          go_ret3
          rw [HREC.out, if_pos hlt]
          exact ⟨_, _, rfl, rows_nil _ _, rows_nil _ _, v, vs, HW8.out.1, Kept.of_below HW8.out.2.1, fun g hg => hg⟩
        have hlt' : decide (x1 < sp) = false := by simp; omega
        have HR2 : Hid (recvL ⟨sl, sp, st, sf, sw⟩ l = if x2 ≠ 0 ∧ x2 ≠ sl then (Se.meet ⟨sl, sp, st, sf, sw⟩ x1, [], Se.meetOut ⟨sl, sp, st, sf, sw⟩ x1, 0)
          else if Hf = false then ((Se.meet ⟨sl, sp, st, sf, sw⟩ x1).acked ⟨x1, x2, x3, x4, Hf⟩, [], Se.meetOut ⟨sl, sp, st, sf, sw⟩ x1, 0)
          else ((((Se.meet ⟨sl, sp, st, sf, sw⟩ x1).acked ⟨x1, x2, x3, x4, Hf⟩).take ⟨x1, x2, x3, x4, Hf⟩), (if x3 = ((Se.meet ⟨sl, sp, st, sf, sw⟩ x1).acked ⟨x1, x2, x3, x4, Hf⟩).took + 1 then [m] else []), Se.meetOut ⟨sl, sp, st, sf, sw⟩ x1 ++ [pktL (((Se.meet ⟨sl, sp, st, sf, sw⟩ x1).acked ⟨x1, x2, x3, x4, Hf⟩).take ⟨x1, x2, x3, x4, Hf⟩) 0 false []], 0)) := Lib.hid (by rw [HREC.out, if_neg hlt])
        clear HREC
        have f1 := HW8.out.1.free 1
        have f2 := HW8.out.1.free 2
        have f4 := HW8.out.1.free 4
        have hab : ¬ a = bg := by omega
        have hba : ¬ bg = a := by omega
        go_upto_if 81 with fail
        obtain ⟨W4, rfl⟩ : ∃ W, W = wc := ⟨wc, rfl⟩
        go_cut [17] from 18 (fun s17 wx => Hid (RowsAt wx w.heap.size s17 (Se.meetOut ⟨sl, sp, st, sf, sw⟩ x1)) ∧ Hid (RsAt B wx a v vs (Se.meet ⟨sl, sp, st, sf, sw⟩ x1)) ∧ Hid (Kept (foot a v) w wx) ∧ Hid (wx.rangeAt bg 0 (eyeCells A2 bl c2 i5 false)) ∧ bg < wx.heap.size ∧ Hid (OwnB wx w.heap.size (.slice A2 bl c2) b))
        case first =>
          by_cases hmt : sp < x1
          · go_upto_region 19 with fail
            have hm1 : Se.meet ⟨sl, sp, st, sf, sw⟩ x1 = ⟨sl, x1, 0, 1, sw⟩ := by unfold Se.meet; rw [if_pos hmt]
            have hm2 : Se.meetOut ⟨sl, sp, st, sf, sw⟩ x1 = tickL ⟨sl, x1, 0, 1, sw⟩ := by unfold Se.meetOut; rw [if_pos hmt]
            have hok1 : (⟨sl, x1, 0, 1, sw⟩ : Se).Ok := by have := meet_ok HOK.out (l := x1) (by have := HFAR.out.1; unfold farN at this; exact this); rwa [hm1] at this
            have HM12 := Lib.hid (And.intro hm1 (And.intro hm2 hok1))
            have HW5 : Hid (RsAt B (((W4.setCell ⟨a, 1, none⟩ (.int .i64 x1)).setCell ⟨a, 4, none⟩ (.int .i64 0)).setCell ⟨a, 2, none⟩ (.int .i64 1)) a v vs ⟨sl, x1, 0, 1, sw⟩ ∧ Kept (foot a v) w (((W4.setCell ⟨a, 1, none⟩ (.int .i64 x1)).setCell ⟨a, 4, none⟩ (.int .i64 0)).setCell ⟨a, 2, none⟩ (.int .i64 1)) ∧ (((W4.setCell ⟨a, 1, none⟩ (.int .i64 x1)).setCell ⟨a, 4, none⟩ (.int .i64 0)).setCell ⟨a, 2, none⟩ (.int .i64 1)).rangeAt bg 0 (eyeCells A2 bl c2 i5 false) ∧ OwnB (((W4.setCell ⟨a, 1, none⟩ (.int .i64 x1)).setCell ⟨a, 4, none⟩ (.int .i64 0)).setCell ⟨a, 2, none⟩ (.int .i64 1)) w.heap.size (.slice A2 bl c2) b ∧ W4.heap.size = (((W4.setCell ⟨a, 1, none⟩ (.int .i64 x1)).setCell ⟨a, 4, none⟩ (.int .i64 0)).setCell ⟨a, 2, none⟩ (.int .i64 1)).heap.size) := Lib.hid (by
              have ho : ∀ (W : World) (j : Nat) (u : Value), OwnB W w.heap.size (.slice A2 bl c2) b → OwnB (W.setCell ⟨a, j, none⟩ u) w.heap.size (.slice A2 bl c2) b := fun W j u hh => Row.setCell_other hh (fun e => by have := (hh.lt a e).1; omega) u
              exact ⟨((HW8.out.1.setPeer x1).setTook 0).setFirst 1, (((Kept.of_below HW8.out.2.1 : Kept (foot a v) w W4).setCell (a := ⟨a, 1, none⟩) (fun _ => .inl rfl) _).setCell (a := ⟨a, 4, none⟩) (fun _ => .inl rfl) _).setCell (a := ⟨a, 2, none⟩) (fun _ => .inl rfl) _, range_setCell_other (range_setCell_other (range_setCell_other HW8.out.2.2.1 hab _) hab _) hab _, ho _ _ _ (ho _ _ _ (ho _ _ _ HW8.out.2.2.2.2.1)), by simp only [World.size_setCell]⟩)
            have hb75 : bg < W4.heap.size := HW8.out.2.2.2.1
            clear HW8 hm1 hm2 hok1 d0 d1 d2 d3 d4 f1 f2 f4 z1
            generalize (((W4.setCell ⟨a, 1, none⟩ (.int .i64 x1)).setCell ⟨a, 4, none⟩ (.int .i64 0)).setCell ⟨a, 2, none⟩ (.int .i64 1)) = W5 at *
            have HALL := Lib.hid (rtick_any B W5 a v vs _ HW5.out.1 HM12.out.2.2)
            go_wp2_with (go_at_call 26; ((with_reducible refine HALL.out.mono ?_); rintro e w6 ⟨u6, rfl, hr6, hb6⟩; obtain ⟨A6, c6, rfl⟩ := hr6.value))
            go_meet
            have hs5 : bg < W5.heap.size := by have := HW5.out.2.2.2.2; omega
            refine ⟨Lib.hid ?_, Lib.hid ?_, Lib.hid (HW5.out.2.1.trans (Kept.of_below hb6 : Kept (fun _ => False) _ _) (fun _ _ e => e.elim)), Lib.hid (range_below_at HW5.out.2.2.1 hb6 hs5), Nat.lt_of_lt_of_le hs5 hb6.size, Lib.hid (HW5.out.2.2.2.1.grow hb6)⟩
            · rw [HM12.out.2.1]; exact hr6.more HW5.out.2.1.size
            · rw [HM12.out.1]; exact HW5.out.1.grow hb6
          · go_wp2_with fail
            go_meet
            refine ⟨Lib.hid ?_, Lib.hid ?_, Lib.hid (Kept.of_below HW8.out.2.1), Lib.hid HW8.out.2.2.1, HW8.out.2.2.2.1, Lib.hid HW8.out.2.2.2.2.1⟩
            · unfold Se.meetOut; rw [if_neg hmt]; exact rows_nil _ _
            · unfold Se.meet; rw [if_neg hmt]; exact HW8.out.1
        case rest =>
          obtain ⟨HOUT, HS1, HK1, HRG, hb7c, HOM⟩ := hcut
          have HCB : Hid (bl ≤ c2 ∧ c2 ≤ 9223372036854775807) := Lib.hid HW8.out.2.2.2.2.2
          have HOK1 := Lib.hid (meet_ok HOK.out (l := x1) (by have := HFAR.out.1; unfold farN at this; exact this))
          have HL1 : Hid ((Se.meet ⟨sl, sp, st, sf, sw⟩ x1).life = sl) := Lib.hid (by unfold Se.meet; split <;> rfl)
          have HOSL : Hid ((Se.meetOut ⟨sl, sp, st, sf, sw⟩ x1).length ≤ 200) := Lib.hid (by
            unfold Se.meetOut
            split
            · rw [tickL_len]; exact HOK.out.wait
            · exact Nat.zero_le _)
          clear HW8 d0 d1 d2 d3 d4 f1 f2 f4 z1 hlt hlt'
          generalize Se.meet ⟨sl, sp, st, sf, sw⟩ x1 = s1 at *
          generalize Se.meetOut ⟨sl, sp, st, sf, sw⟩ x1 = os at *
          obtain ⟨l1, p1, t1, f1, w1⟩ := s1
          have hl1 : l1 = sl := HL1.out
          subst hl1
          have hl1p : 1 ≤ l1 := HOK1.out.life.1
          obtain ⟨Ao, co, rfl⟩ := HOUT.out.value
          obtain ⟨on, HON⟩ : ∃ on, Hid (os.length = on) := ⟨_, Lib.hid rfl⟩
          rw [HON.out] at HOUT
          simp only [HON.out]
          obtain ⟨e0, e1, e2, e3, e4⟩ := HS1.out.cells_
          simp only at e0 e1 e2 e4
          by_cases hbad : x2 ≠ 0 ∧ x2 ≠ l1
          · have k1 : ((x2 : Int) != 0) = true := by simp; omega
            have k2 : ((x2 : Int) != (l1 : Int)) = true := by simp; omega
            go_wp2_with (refine wpList_unguard rfl ?_)
            go_ret3
            rw [HR2.out, if_pos hbad]
            exact ⟨_, _, rfl, rows_nil _ _, HOUT.out, v, vs, HS1.out, HK1.out, fun g hg => hg⟩
          have hgood : x2 = 0 ∨ x2 = l1 := by omega
          obtain ⟨Wa, rfl⟩ : ∃ W, W = wc := ⟨wc, rfl⟩
          go_upto_region 20 with fail
          go_cut [103] from 18 (fun s103 wx => s103 = .bool false ∧ wx = Wa)
          case first =>
            by_cases hp0 : x2 = 0
            · have k1 : ((x2 : Int) != 0) = false := by simp [hp0]
              clear hp0 hgood hbad
              go_wp2_with (refine wpList_unguard rfl ?_)
              go_meet
              exact ⟨rfl, rfl⟩
            · have k1 : ((x2 : Int) != 0) = true := by simp; omega
              have k2 : ((x2 : Int) != (l1 : Int)) = false := by simp; omega
              clear hp0 hgood hbad
              go_wp2_with (refine wpList_unguard rfl ?_)
              go_meet
              exact ⟨rfl, rfl⟩
          case rest =>
            obtain ⟨rfl, rfl⟩ := hcut
            obtain ⟨Av, cv, rfl, hwc, hcv, _⟩ := HS1.out.row.form
            simp only at hwc
            obtain ⟨wn, HWN⟩ : ∃ wn, Hid (w1.length = wn) := ⟨_, Lib.hid rfl⟩
            simp only [HWN.out] at e3 hwc
            have hwn : wn ≤ 200 := by have := HOK1.out.wait; simp only [HWN.out] at this; exact this
            have hf1 : f1 ≤ 2000000000000 ∧ 1 ≤ f1 := ⟨HOK1.out.first.2, HOK1.out.first.1⟩
            obtain ⟨hf1a, hf1b⟩ := hf1
            have hHa : x4 ≤ 1099511627776 := HFAR.out.2.2.2
            go_upto_if 110 with fail
            go_cut [] from 18 (fun wx => ∃ (v' : Value) (vs' : List Value), Hid (RsAt B wx a v' vs' (Se.acked ⟨l1, p1, t1, f1, w1⟩ ⟨x1, x2, x3, x4, Hf⟩)) ∧ Hid (Kept (foot a (.slice Av w1.length cv)) w wx) ∧ Hid (∀ g, v'.ownBlock = some g → (Value.slice Av w1.length cv).ownBlock = some g) ∧ Hid (RowsAt wx w.heap.size (.slice Ao on co) os) ∧ Hid (wx.rangeAt bg 0 (eyeCells A2 bl c2 i5 false)) ∧ bg < wx.heap.size ∧ Hid (OwnB wx w.heap.size (.slice A2 bl c2) b))
            case first =>
              by_cases hp0 : x2 = 0
              · have k1 : ((x2 : Int) == (l1 : Int)) = false := by simp; omega
                have HP0 := Lib.hid hp0
                clear hp0 hgood hbad
                go_wp2_with fail
                go_meet
                exact ⟨_, _, Lib.hid (by unfold Se.acked; rw [if_pos HP0.out]; exact HS1.out), HK1, Lib.hid (fun g hg => hg), HOUT, HRG, hb7c, HOM⟩
              · have k1 : ((x2 : Int) == (l1 : Int)) = true := by simp; omega
                have HP0 := Lib.hid hp0
                clear hp0 hgood hbad
                obtain ⟨dn, HDN⟩ : ∃ dn, Hid (min (x4 + 1 - f1) wn = dn) := ⟨_, Lib.hid rfl⟩
                have HACK : Hid (Se.acked ⟨l1, p1, t1, f1, w1⟩ ⟨x1, x2, x3, x4, Hf⟩ = ⟨l1, p1, t1, f1 + dn, w1.drop dn⟩) := Lib.hid (by
                  unfold Se.acked Se.drop Se.done
                  rw [if_neg HP0.out]
                  simp only [HWN.out, HDN.out])
                go_wp2
                go_loopw [] (fun wr => ∃ (j : Nat) (v' : Value) (vs' : List Value), j ≤ dn ∧ Hid (RsAt B wr a v' vs' ⟨l1, p1, t1, f1 + j, w1.drop j⟩) ∧ Hid (Kept (foot a (.slice Av w1.length cv)) w wr) ∧ Hid (∀ g, v'.ownBlock = some g → (Value.slice Av w1.length cv).ownBlock = some g) ∧ Hid (RowsAt wr w.heap.size (.slice Ao on co) os) ∧ Hid (wr.rangeAt bg 0 (eyeCells A2 bl c2 i5 false)) ∧ bg < wr.heap.size ∧ Hid (OwnB wr w.heap.size (.slice A2 bl c2) b)) (fun wr => waitLen wr a)
                case atStart => exact ⟨0, _, _, Nat.zero_le _, HS1, HK1, Lib.hid (fun g hg => hg), HOUT, HRG, hb7c, HOM⟩
                case round =>
                  clear HS1 HK1 HOUT HRG hb7c HOM e0 e1 e2 e3 e4
                  obtain ⟨j, v', vs', hj, HSj, HKj, HVj, HOj, HRj, hbj, HMj⟩ := hrel
                  obtain ⟨M, HM1⟩ : ∃ M, Hid ((w1.drop j).length = M) := ⟨_, Lib.hid rfl⟩
                  obtain ⟨F, HF1⟩ : ∃ F, Hid (f1 + j = F) := ⟨_, Lib.hid rfl⟩
                  have HMW : Hid (M = wn - j) := Lib.hid (by rw [← HM1.out, List.length_drop, HWN.out])
                  obtain ⟨_, _, e2, e3, _⟩ := HSj.out.cells_
                  simp only [HF1.out] at e2
                  have g2 := HSj.out.free 2
                  have g3 := HSj.out.free 3
                  by_cases hlt : j < dn
                  · have hM0 : 0 < M := by have := HMW.out; have := HDN.out; omega
                    have hFA : F ≤ x4 := by have := HF1.out; have := HDN.out; omega
                    have hF2 : F ≤ 2000000000000 := by omega
                    have HJ := Lib.hid (And.intro hj hlt)
                    clear hj hlt
                    obtain ⟨g, off, c', hv, _, hMc, hcm⟩ := Row.some_ HSj.out.row (by rw [show (Se.wait ⟨l1, p1, t1, f1 + j, w1.drop j⟩).length = M from HM1.out]; exact hM0)
                    rw [show (Se.wait ⟨l1, p1, t1, f1 + j, w1.drop j⟩).length = M from HM1.out] at hv hMc
                    subst hv
                    have hcm' : c' ≤ 9223372036854775807 := by unfold maxLen at hcm; exact hcm
                    have w1' : IntKind.i64.wrap ((F : Int) + 1) = (F : Int) + 1 := IntWalk.i64_in _ (by omega)
                    have HFIN : Hid (∀ u, u = .slice (if c' = 1 then some ⟨g, off, none⟩ else some ⟨g, off + 1, none⟩) (M - 1) (c' - 1) → ∃ vs', RsAt B ((wr.setCell ⟨a, 3, none⟩ u).setCell ⟨a, 2, none⟩ (.int .i64 ((F : Int) + 1))) a u vs' ⟨l1, p1, t1, f1 + (j + 1), w1.drop (j + 1)⟩ ∧ Kept (foot a (.slice Av w1.length cv)) w ((wr.setCell ⟨a, 3, none⟩ u).setCell ⟨a, 2, none⟩ (.int .i64 ((F : Int) + 1))) ∧ (∀ g, u.ownBlock = some g → (Value.slice Av w1.length cv).ownBlock = some g) ∧ RowsAt ((wr.setCell ⟨a, 3, none⟩ u).setCell ⟨a, 2, none⟩ (.int .i64 ((F : Int) + 1))) w.heap.size (.slice Ao on co) os ∧ ((wr.setCell ⟨a, 3, none⟩ u).setCell ⟨a, 2, none⟩ (.int .i64 ((F : Int) + 1))).rangeAt bg 0 (eyeCells A2 bl c2 i5 false) ∧ bg < ((wr.setCell ⟨a, 3, none⟩ u).setCell ⟨a, 2, none⟩ (.int .i64 ((F : Int) + 1))).heap.size ∧ OwnB ((wr.setCell ⟨a, 3, none⟩ u).setCell ⟨a, 2, none⟩ (.int .i64 ((F : Int) + 1))) w.heap.size (.slice A2 bl c2) b) := Lib.hid (by
                      intro u hu
                      have ho : ∀ (W : World) (j : Nat) (u : Value), OwnB W w.heap.size (.slice A2 bl c2) b → OwnB (W.setCell ⟨a, j, none⟩ u) w.heap.size (.slice A2 bl c2) b := fun W j u hh => Row.setCell_other hh (fun e => by have := (hh.lt a e).1; omega) u
                      have hro : ∀ (W : World) (j : Nat) (u : Value), RowsAt W w.heap.size (.slice Ao on co) os → RowsAt (W.setCell ⟨a, j, none⟩ u) w.heap.size (.slice Ao on co) os := fun W j u hh => hh.keep (S := fun k => k = a) ((Kept.refl (fun k => k = a) W).setCell (a := ⟨a, j, none⟩) (fun _ => rfl) u) (fun k h1 h2 e => by omega)
                      have hrs : RsAt B wr a (.slice (some ⟨g, off, none⟩) (w1.drop j).length c') vs' ⟨l1, p1, t1, f1 + j, w1.drop j⟩ := by rw [HM1.out]; exact HSj.out
                      have h1 := (RsAt.setWait (s := ⟨l1, p1, t1, f1 + j, w1.drop j⟩) hrs (n := 1) (by show 1 ≤ (w1.drop j).length; rw [HM1.out]; exact hM0) u (by
                        rw [hu]
                        simp only [HM1.out]
                        split
                        · rfl
                        · rw [Option.map_some, Addr.add_mid])).setFirst (f1 + (j + 1))
                      have hfe : ((f1 + (j + 1) : Nat) : Int) = (F : Int) + 1 := by have := HF1.out; omega
                      rw [hfe] at h1
                      simp only [List.drop_drop] at h1
                      refine ⟨_, h1, (HKj.out.setCell (a := ⟨a, 3, none⟩) (fun _ => .inl rfl) _).setCell (a := ⟨a, 2, none⟩) (fun _ => .inl rfl) _, fun q hq => HVj.out q ?_, hro _ _ _ (hro _ _ _ HOj.out), range_setCell_other (range_setCell_other HRj.out hab _) hab _, by simp only [World.size_setCell]; exact hbj, ho _ _ _ (ho _ _ _ HMj.out)⟩
                      rw [hu] at hq
                      split at hq <;> exact hq)
                    have HWL : Hid (waitLen wr a = M) := Lib.hid (by unfold waitLen; rw [e3])
                    have HWL2 : Hid (∀ (A' : Option Addr) (k' : Nat), waitLen ((wr.setCell ⟨a, 3, none⟩ (.slice A' (M - 1) k')).setCell ⟨a, 2, none⟩ (.int .i64 ((F : Int) + 1))) a = M - 1 ∨ True) := Lib.hid (fun _ _ => .inr trivial)
                    have hcc : c' = 1 ∨ ¬ c' = 1 := Decidable.em _
                    rcases hcc with hc1 | hc1
                    · subst hc1
                      obtain rfl : M = 1 := by omega
                      have HF := Lib.hid (HFIN.out (.slice (some ⟨g, off, none⟩) 0 0) (by rw [if_pos rfl]))
                      clear HFIN
                      go_wp2_with (refine wpList_unguard rfl ?_)
                      go_roundw
                      case rel =>
                        obtain ⟨vs2, P1, P2, P3, P4, P5, P6, P7⟩ := HF.out
                        exact ⟨j + 1, _, vs2, by have := HJ.out; omega, Lib.hid P1, Lib.hid P2, Lib.hid P3, Lib.hid P4, Lib.hid P5, P6, Lib.hid P7⟩
                      case measure =>
                        obtain ⟨vs2, P1, _⟩ := HF.out
                        rw [HWL.out]
                        unfold waitLen
                        rw [P1.cells_.2.2.2.1]
                        omega
                    · have HF := Lib.hid (HFIN.out (.slice (some ⟨g, off + 1, none⟩) (M - 1) (c' - 1)) (by rw [if_neg hc1]))
                      clear HFIN
                      go_wp2_with (refine wpList_unguard rfl ?_)
                      go_roundw
                      case rel =>
                        obtain ⟨vs2, P1, P2, P3, P4, P5, P6, P7⟩ := HF.out
                        exact ⟨j + 1, _, vs2, by have := HJ.out; omega, Lib.hid P1, Lib.hid P2, Lib.hid P3, Lib.hid P4, Lib.hid P5, P6, Lib.hid P7⟩
                      case measure =>
                        obtain ⟨vs2, P1, _⟩ := HF.out
                        rw [HWL.out]
                        unfold waitLen
                        rw [P1.cells_.2.2.2.1]
                        show M - 1 < M
                        omega
                  · have hje : dn = j := by omega
                    have HJE := Lib.hid hje
                    have hstop : ¬ 0 < M ∨ (0 < M ∧ ¬ F ≤ x4) := by have := HMW.out; have := HDN.out; have := HF1.out; omega
                    obtain ⟨A', c', hv, _⟩ := HSj.out.row.form
                    simp only [HM1.out] at hv
                    subst hv
                    clear hje hj hlt
                    rcases hstop with hM0 | ⟨hM0, hFA⟩
                    · have hM1 : decide ((0 : Int) < (M : Int)) = false := by simp; omega
                      go_wp2_with (refine wpList_unguard rfl ?_)
                      go_meet
                      exact ⟨_, _, Lib.hid (by rw [HACK.out, HJE.out]; exact HSj.out), HKj, HVj, HOj, HRj, hbj, HMj⟩
                    · have hFA' : decide ((F : Int) ≤ (x4 : Int)) = false := by simp; omega
                      go_wp2_with (refine wpList_unguard rfl ?_)
                      go_meet
                      exact ⟨_, _, Lib.hid (by rw [HACK.out, HJE.out]; exact HSj.out), HKj, HVj, HOj, HRj, hbj, HMj⟩
            case rest =>
              obtain ⟨v2, vs2, HS2, HK2, HV2, HOUT2, HRG2, hb72, HOM2⟩ := hcut
              have HVL : Hid (∀ g, (Value.slice Av w1.length cv).ownBlock = some g → g < w.heap.size) := Lib.hid (fun g hg => (HS.out.row.lt g hg).2)
              have HOK2 := Lib.hid (acked_ok HOK1.out ⟨x1, x2, x3, x4, Hf⟩ hHa)
              rw [if_neg hbad] at HR2
              clear HS1 HK1 HOUT HRG hb7c HOM e0 e1 e2 e3 e4
              generalize Se.acked ⟨l1, p1, t1, f1, w1⟩ ⟨x1, x2, x3, x4, Hf⟩ = s2 at *
              obtain ⟨_, _, _, _, e4⟩ := HS2.out.cells_
              have g4 := HS2.out.free 4
              obtain ⟨t2, HT2⟩ : ∃ t2, Hid (s2.took = t2) := ⟨_, Lib.hid rfl⟩
              rw [HT2.out] at e4
              have ht2 : t2 ≤ 2000000000000 := by rw [← HT2.out]; exact HOK2.out.took
              have y1 : wc.cell? ⟨bg, 1, none⟩ = some (.int .i64 i5) := HRG2.out 1 _ rfl
              clear hbad hgood
              rcases hyf with ⟨hy0, hff⟩ | ⟨hy0, hff⟩
              · have k1 : ((y : Int) == 1) = false := by simp; omega
                subst hff
                clear hy0
                go_wp2
                go_ret3
                rw [HR2.out, if_pos trivial]
                exact ⟨_, _, rfl, rows_nil _ _, HOUT2.out, v2, vs2, HS2.out, HK2.out, HV2.out⟩
              · have k1 : ((y : Int) == 1) = true := by simp; omega
                subst hff
                clear hy0
                have q5 : IntKind.i64.wrap ((t2 : Int) + 1) = (t2 : Int) + 1 := IntWalk.i64_in _ (by omega)
                have HR3 : Hid (recvL ⟨l1, sp, st, sf, sw⟩ l = (s2.take ⟨x1, x2, x3, x4, true⟩, (if x3 = t2 + 1 then [m] else []), os ++ [pktL (s2.take ⟨x1, x2, x3, x4, true⟩) 0 false []], 0)) := Lib.hid (by rw [HR2.out, if_neg (by simp), HT2.out])
                clear HR2
                obtain ⟨hcb1, hcb2⟩ := HCB.out
                have HRD := Lib.hid (show Reads wc wc.heap.size 1 (if c2 = i5 then A2 else A2.map (·.add i5)) (bl - i5) (bc m) by
                  obtain ⟨A', c', e, _, _, g3⟩ := HOM2.out.form
                  injection e with e1 e2 e3
                  rw [HBL.out] at e2 g3
                  subst e1 e3
                  have := g3.cut hi5 hcb1
                  rw [Nat.mul_one] at this
                  rw [← HM.out, show bc (b.drop i5) = (bc b).drop i5 from List.map_drop]
                  exact this)
                have hML : bl - i5 ≤ 131072 := by have := HBLM.out; omega
                obtain ⟨Wd, rfl⟩ : ∃ W, W = wc := ⟨wc, rfl⟩
                go_upto_if 148 with fail
                go_cut [16] from 18 (fun s16 wx => Hid (RowsAt wx w.heap.size s16 (if x3 = t2 + 1 then [m] else [])) ∧ Hid (RsAt B wx a v2 vs2 (s2.take ⟨x1, x2, x3, x4, true⟩)) ∧ Hid (Kept (foot a (.slice Av w1.length cv)) w wx) ∧ Hid (RowsAt wx w.heap.size (.slice Ao on co) os) ∧ Hid (∀ g, s16.ownBlock = some g → (Value.slice Ao on co).ownBlock ≠ some g))
                case first =>
                  by_cases hnt : x3 = t2 + 1
                  · have k2 : ((x3 : Int) == (t2 : Int) + 1) = true := by simp; omega
                    have HNT := Lib.hid hnt
                    clear hnt
                    have hsd := HK2.out.size
                    have HFIN : Hid (∀ W3 W5 v3 v5, OwnB W3 w.heap.size v3 m → Below Wd.heap.size Wd W3 → Row W5 w.heap.size 30 v5 1 [v3] → Below W3.heap.size W3 W5 → (∀ g, v5.ownBlock = some g → Wd.heap.size ≤ g) →
                        RowsAt (W5.setCell ⟨a, 4, none⟩ (.int .i64 ((t2 : Int) + 1))) w.heap.size v5 (if x3 = t2 + 1 then [m] else []) ∧ RsAt B (W5.setCell ⟨a, 4, none⟩ (.int .i64 ((t2 : Int) + 1))) a v2 vs2 (s2.take ⟨x1, x2, x3, x4, true⟩) ∧ Kept (foot a (.slice Av w1.length cv)) w (W5.setCell ⟨a, 4, none⟩ (.int .i64 ((t2 : Int) + 1))) ∧ RowsAt (W5.setCell ⟨a, 4, none⟩ (.int .i64 ((t2 : Int) + 1))) w.heap.size (.slice Ao on co) os ∧ ∀ g, v5.ownBlock = some g → (Value.slice Ao on co).ownBlock ≠ some g) := Lib.hid (by
                      intro W3 W5 v3 v5 g1 g2 g3 g4 g5
                      have hb5 : Below Wd.heap.size Wd W5 := g2.trans (g4.mono g2.size)
                      have KS : Kept (fun k => k = a) W5 (W5.setCell ⟨a, 4, none⟩ (.int .i64 ((t2 : Int) + 1))) := (Kept.refl (fun k => k = a) W5).setCell (a := ⟨a, 4, none⟩) (fun _ => rfl) _
                      have hnot : ∀ k, w.heap.size ≤ k → k < W5.heap.size → ¬ k = a := fun k h1 _ e => by omega
                      refine ⟨?_, ?_, ((HK2.out.trans (Kept.of_below hb5 : Kept (fun _ => False) _ _) (fun _ _ e => e.elim))).setCell (a := ⟨a, 4, none⟩) (fun _ => .inl rfl) _, (HOUT2.out.grow hb5).keep KS hnot, fun g hg e => ?_⟩
                      · rw [if_pos HNT.out]
                        refine RowsAt.keep ⟨[v3], g3, rfl, fun i x y h1 h2 => ?_⟩ KS hnot
                        cases i with
                        | zero => simp at h1 h2; subst h1 h2; exact g1.grow g4
                        | succ i => simp at h1
                      · have ht : s2.take ⟨x1, x2, x3, x4, true⟩ = { s2 with took := t2 + 1 } := by unfold Se.take; rw [HT2.out, if_pos HNT.out]
                        rw [ht]
                        exact (HS2.out.grow hb5).setTook (t2 + 1)
                      · obtain ⟨us, hru, _⟩ := HOUT2.out
                        have h1 := (hru.lt g e).2
                        have h2 := g5 g hg
                        omega)
                    have HMM : Hid (m.length = bl - i5) := Lib.hid (by rw [← HM.out, List.length_drop, HBL.out])
                    have hcc : (bl = i5 ∧ c2 = i5) ∨ ¬ c2 = i5 := by omega
                    rcases hcc with ⟨rfl, rfl⟩ | hci
                    · have HRDi : Hid (Reads Wd Wd.heap.size 1 A2 0 (bc m)) := Lib.hid (by have := HRD.out; rwa [if_pos rfl, Nat.sub_self] at this)
                      rw [Nat.sub_self] at HMM
                      clear HRD hML hcb1 HOM2 HCB
                      go_upto_region 29 with (first
                        | (at_builtin; refine app_bytesL _ rfl (.tmp 150) (.tmp 156) rfl w.heap.size _ 0 [] rfl (row_made0 _ _ _ hsd) _ Wd.heap.size 0 0 (bc m) rfl (HRDi.out.alloc (Nat.le_refl _) _) (bc_one _) (by omega) (by rw [alloc_size]; omega) ?_; intro v3 w3 ho3 hk3 hg3; rw [Nat.zero_add, List.nil_append] at ho3; have HO3 := Lib.hid ho3; have HB3 : Hid (Below Wd.heap.size Wd w3) := Lib.hid (((Below.refl Wd.heap.size Wd).alloc (Nat.le_refl _) _).trans (hk3.below (by rw [alloc_size]; omega) (fun k hk => own_le hk (Nat.le_refl _)))); have z3 := HB3.out.size; obtain ⟨A3, c3', rfl, _⟩ := ho3.form; clear ho3 hk3 hg3)
                        | (at_builtin; refine app_rowsL _ rfl (.tmp 149) (.tmp 158) rfl w.heap.size _ 0 [] rfl (Row.nil_ _ _ _) _ _ 1 _ [.slice A3 0 c3'] rfl (by have := reads_new1 w3 (.slice A3 0 c3') 30; exact this) (by intro u hu; simp at hu; subst hu; rfl) (by omega) (by rw [alloc_size]; omega) ?_; intro v4 w4 ho4 hk4 hg4; rw [Nat.zero_add, List.nil_append] at ho4; have HO4 := Lib.hid ho4; have HB4 : Hid (Below w3.heap.size w3 w4) := Lib.hid (((Below.refl w3.heap.size w3).alloc (Nat.le_refl _) _).trans (hk4.below (by rw [alloc_size]; omega) (fun k hk => by cases hk))); have HG4 : Hid (∀ g, v4.ownBlock = some g → Wd.heap.size ≤ g) := Lib.hid (fun g hg => Or.elim (hg4 g hg) (fun e => by cases e) (fun e => by rw [alloc_size] at e; omega)); obtain ⟨A4, c4', rfl, _⟩ := ho4.form; clear ho4 hk4 hg4))
                      have had : a < Wd.heap.size := by omega
                      have hbb : Below Wd.heap.size Wd w4 := HB3.out.trans (HB4.out.mono z3)
                      have e4' : w4.cell? ⟨a, 4, none⟩ = some (.int .i64 t2) := (hbb.cell (p := ⟨a, 4, none⟩) had).trans e4
                      have g4' : w4.frozen? ⟨a, 4, none⟩ = false := (hbb.frozen (p := ⟨a, 4, none⟩) had).trans g4
                      clear hbb
                      go_wp2_with fail
                      go_meet
                      obtain ⟨P1, P2, P3, P4, P5⟩ := HFIN.out w3 w4 _ _ (by show Row w3 w.heap.size 5 _ m.length (bc m); rw [HMM.out]; exact HO3.out) HB3.out HO4.out HB4.out HG4.out
                      exact ⟨Lib.hid P1, Lib.hid P2, Lib.hid P3, Lib.hid P4, Lib.hid P5⟩
                    · obtain ⟨ad, rfl⟩ : ∃ ad, A2 = some ad := by
                        obtain ⟨h1, ⟨h2, h3⟩ | ⟨g, off, cap, cur, h2, _⟩⟩ := HOM2.out
                        · injection h2 with _ h4 h5
                          omega
                        · injection h2 with h2; exact ⟨_, h2⟩
                      obtain ⟨ml, HML⟩ : ∃ ml, Hid (bl - i5 = ml) := ⟨_, Lib.hid rfl⟩
                      have HRDi : Hid (Reads Wd Wd.heap.size 1 (some (ad.add i5)) (bl - i5) (bc m)) := Lib.hid (by have := HRD.out; rwa [if_neg hci, Option.map_some] at this)
                      clear HRD HOM2 HCB
                      go_upto_region 29 with (first
                        | (at_builtin; refine app_bytesL _ rfl (.tmp 150) (.tmp 156) rfl w.heap.size _ 0 [] rfl (row_made0 _ _ _ hsd) _ Wd.heap.size (bl - i5) _ (bc m) rfl (HRDi.out.alloc (Nat.le_refl _) _) (bc_one _) (by omega) (by rw [alloc_size]; omega) ?_; intro v3 w3 ho3 hk3 hg3; rw [Nat.zero_add, List.nil_append] at ho3; have HO3 := Lib.hid ho3; have HB3 : Hid (Below Wd.heap.size Wd w3) := Lib.hid (((Below.refl Wd.heap.size Wd).alloc (Nat.le_refl _) _).trans (hk3.below (by rw [alloc_size]; omega) (fun k hk => own_le hk (Nat.le_refl _)))); have z3 := HB3.out.size; obtain ⟨A3, c3', rfl, _⟩ := ho3.form; clear ho3 hk3 hg3)
                        | (at_builtin; refine app_rowsL _ rfl (.tmp 149) (.tmp 158) rfl w.heap.size _ 0 [] rfl (Row.nil_ _ _ _) _ _ 1 _ [.slice A3 (bl - i5) c3'] rfl (by have := reads_new1 w3 (.slice A3 (bl - i5) c3') 30; exact this) (by intro u hu; simp at hu; subst hu; rfl) (by omega) (by rw [alloc_size]; omega) ?_; intro v4 w4 ho4 hk4 hg4; rw [Nat.zero_add, List.nil_append] at ho4; have HO4 := Lib.hid ho4; have HB4 : Hid (Below w3.heap.size w3 w4) := Lib.hid (((Below.refl w3.heap.size w3).alloc (Nat.le_refl _) _).trans (hk4.below (by rw [alloc_size]; omega) (fun k hk => by cases hk))); have HG4 : Hid (∀ g, v4.ownBlock = some g → Wd.heap.size ≤ g) := Lib.hid (fun g hg => Or.elim (hg4 g hg) (fun e => by cases e) (fun e => by rw [alloc_size] at e; omega)); obtain ⟨A4, c4', rfl, _⟩ := ho4.form; clear ho4 hk4 hg4))
                      have had : a < Wd.heap.size := by omega
                      have hbb : Below Wd.heap.size Wd w4 := HB3.out.trans (HB4.out.mono z3)
                      have e4' : w4.cell? ⟨a, 4, none⟩ = some (.int .i64 t2) := (hbb.cell (p := ⟨a, 4, none⟩) had).trans e4
                      have g4' : w4.frozen? ⟨a, 4, none⟩ = false := (hbb.frozen (p := ⟨a, 4, none⟩) had).trans g4
                      clear hbb
                      go_wp2_with fail
                      go_meet
                      obtain ⟨P1, P2, P3, P4, P5⟩ := HFIN.out w3 w4 _ _ (by show Row w3 w.heap.size 5 _ m.length (bc m); rw [HMM.out]; exact HO3.out) HB3.out HO4.out HB4.out HG4.out
                      exact ⟨Lib.hid P1, Lib.hid P2, Lib.hid P3, Lib.hid P4, Lib.hid P5⟩
                  · have k2 : ((x3 : Int) == (t2 : Int) + 1) = false := by simp; omega
                    go_wp2_with fail
                    go_meet
                    refine ⟨Lib.hid (by rw [if_neg hnt]; exact rows_nil _ _), Lib.hid ?_, HK2, HOUT2, Lib.hid (fun g hg => by cases hg)⟩
                    have ht : s2.take ⟨x1, x2, x3, x4, true⟩ = s2 := by unfold Se.take; rw [HT2.out, if_neg hnt]
                    rw [ht]
                    exact HS2.out
                case rest =>
                  obtain ⟨HGOT, HS3, HK3, HOUT3, HAP⟩ := hcut
                  have HOK3 := Lib.hid (take_ok HOK2.out ⟨x1, x2, x3, x4, true⟩ (by have := HFAR.out.2.2.1; unfold farN at this; exact this))
                  obtain ⟨Ag, cg, rfl⟩ := HGOT.out.value
                  obtain ⟨gn, HGN⟩ : ∃ gn, Hid ((if x3 = t2 + 1 then [m] else []).length = gn) := ⟨_, Lib.hid rfl⟩
                  rw [HGN.out] at HGOT HAP
                  simp only [HGN.out]
                  have hsc := HK3.out.size
                  have HPK := Lib.hid (rpacket_z wc a _ HS3.out HOK3.out 0 0 rfl (by omega) false none 0 0 [] Reads.none_ (by omega) (fun _ => rfl))
                  obtain ⟨us, hru, hou⟩ := HOUT3.out
                  rw [HON.out] at hru
                  have HRU := Lib.hid hru
                  have HOU := Lib.hid hou
                  clear hru hou
                  have hon : on ≤ 200 := by rw [← HON.out]; exact HOSL.out
                  go_wp2_with (first
                    | (go_at_call 34; ((with_reducible refine HPK.out.mono ?_); rintro e w9 ⟨q9, rfl, ho9, hb9⟩; have HO9 := Lib.hid ho9; obtain ⟨Au, cu, rfl, _⟩ := ho9.value; have HB9 := Lib.hid hb9; have hs9 := hb9.size; clear ho9 hb9))
                    | (at_builtin; refine app_rows _ rfl (.tmp 167) (.tmp 170) rfl w.heap.size _ on us rfl (HRU.out.grow (HB9.out.alloc hs9 _)) _ _ 1 _ [_] rfl (by have := reads_new1 w9 (.slice Au (pktL (s2.take ⟨x1, x2, x3, x4, true⟩) 0 false []).length cu) 30; exact this) (by omega) (by intro u hu; simp at hu; subst hu; rfl) (by omega) (by rw [alloc_size]; omega) ?_; intro v10 w10 ho10 hk10 hg10; have HO10 := Lib.hid ho10; have HK10 := Lib.hid hk10; obtain ⟨A10, c10, rfl, _⟩ := ho10.form; clear ho10 hk10 hg10))
                  go_ret3
                  rw [HR3.out]
                  have hb99 : Below wc.heap.size wc (w9.alloc (.cells #[.slice Au (pktL (s2.take ⟨x1, x2, x3, x4, true⟩) 0 false []).length cu] 30)) := HB9.out.alloc HB9.out.size _
                  have hru9 := HRU.out.grow hb99
                  obtain ⟨usg, hrg, hog⟩ := HGOT.out
                  have hty : ∀ (g : Nat) (cc : Array Value), (w9.alloc (.cells #[.slice Au (pktL (s2.take ⟨x1, x2, x3, x4, true⟩) 0 false []).length cu] 30)).heap[g]? = some (.cells cc 5 (0, 0)) → ¬ (Value.slice Ao on co).ownBlock = some g := fun g cc hg e => row_apart_blk hru9 hg (by decide) e
                  have hlo : ∀ k, (Value.slice Ao on co).ownBlock = some k → w.heap.size ≤ k := fun k hk => (HRU.out.lt k hk).1
                  rw [HGN.out] at hrg
                  refine ⟨_, _, rfl, ⟨usg, ?_, (hog.grow hb99).keep HK10.out hty⟩, ⟨us ++ [.slice Au (pktL (s2.take ⟨x1, x2, x3, x4, true⟩) 0 false []).length cu], ?_, ?_⟩, v2, vs2, ?_, ?_, HV2.out⟩
                  · show Row w10 w.heap.size 30 (.slice Ag gn cg) (if x3 = t2 + 1 then [m] else []).length usg
                    rw [HGN.out]
                    exact (hrg.grow hb99).keep HK10.out (fun g hg e => HAP.out g hg e)
                  · rw [List.length_append, HON.out]; exact HO10.out
                  · exact (OwnBs.snoc (HOU.out.grow hb99) ((OwnB.more HO9.out hsc).grow ((Below.refl _ _).alloc (Nat.le_refl _) _))).keep HK10.out hty
                  · exact (HS3.out.grow hb99).keep HK10.out (fun e => by have := hlo a e; omega) (fun g hg e => by have := hlo g e; have := HVL.out g (HV2.out g hg); omega) hty
                  · exact (HK3.out.trans (Kept.of_below hb99 : Kept (fun _ => False) _ _) (fun _ _ e => e.elim)).trans HK10.out (fun b hb e => by have := hlo b e; omega)
end
end Go.Proofs.Ytchhejheobceiaa
