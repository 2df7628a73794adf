/- The walk of SessionLives. No condition. -/
import Derived.Test.YtchhejheobceiaaSesE
namespace Go.Proofs.Ytchhejheobceiaa
open Go.RowKit
set_option linter.unusedVariables false

/-- A message made of constants is sent by a session that has sent nothing. -/
theorem send_const (B : Nat) (w2 : World) (a : Nat) (s : Se) (h : SesAt B w2 a (.slice none 0 0) [] s) (hok : s.Ok) (hw : s.wait = []) (hB : B ≤ w2.heap.size) (m : List UInt8) (hm : 0 < m.length) (hm2 : m.length ≤ 65536) (mk : Nat × Nat) (W : World) (hW : W = w2.alloc (.cells (bc m).toArray 5 mk)) (k : Nat) (hk : k = m.length) :
    Calls Try.prog 8 #[.pointer (some ⟨a, 0, none⟩), .slice (some ⟨w2.heap.size, 0, none⟩) k k] W fun e w' => ∃ u, e = .returned (.tuple #[u, .int .i64 0]) ∧ RowsAt w' W.heap.size u [pktL (s.push m) s.first true m] ∧ SesNow B W a (.slice none 0 0) (s.push m) w' := by
  subst hk
  have hb : Below w2.heap.size w2 W := by rw [hW]; exact (Below.refl _ _).alloc (Nat.le_refl _) _
  have hr : W.rangeAt w2.heap.size 0 (bc m) := by rw [hW]; exact range_newm w2 (bc m) _ _
  have hsz : W.heap.size = w2.heap.size + 1 := by rw [hW, alloc_size]
  have hl := h.lt
  have := send_yes B W a (.slice none 0 0) [] s (h.grow hb) hok (some ⟨w2.heap.size, 0, none⟩) m.length m.length m (by omega) (fun W' hk => reads_of_range (kept_range hk hr (by omega) (fun hf => Or.elim hf (fun e => by omega) (fun e => by cases e))) (by rw [bc_length, Nat.mul_one]) (by omega)) hm2 (by rw [hw]; simp)
  rw [hw] at this
  exact this
theorem OwnBs.one {w : World} {b : Nat} {us : List Value} {ms : List (List UInt8)} (h : OwnBs w b us ms) : ∀ u ∈ us, u.oneCell' = true := by
  intro u hu
  obtain ⟨i, hi, rfl⟩ := List.getElem_of_mem hu
  have hi2 : i < ms.length := by rw [← h.len]; exact hi
  obtain ⟨A, c, e, _⟩ := (h.at_ i _ _ (List.getElem?_eq_getElem hi) (List.getElem?_eq_getElem hi2)).value
  rw [e]; rfl
theorem aMet_ok {n young : Nat} (hn : n ≤ 20) (hy : young ≤ 2000) : (aMet n young).Ok := ⟨⟨Nat.le_refl _, by show 1 ≤ 1099511627776; omega⟩, by show young ≤ 1099511627776; omega, by show 1 ≤ 2000000000000; omega, ⟨Nat.le_refl _, by show 1 ≤ 2000000000000; omega⟩, (aSe_ok hn).wait, (aSe_ok hn).msg⟩
theorem ses_kept {B : Nat} {w w1 : World} {a c : Nat} {v : Value} {vs : List Value} {s : Se} {t : World} (h : SesAt B w c v vs s) {S : Nat → Prop} (hk : Kept S w w1) (hc : ¬ S c) (hv : ∀ g, v.ownBlock = some g → ¬ S g) (hb : ∀ g cc, w.heap[g]? = some (.cells cc 5 (0, 0)) → ¬ S g) : SesAt B w1 c v vs s := h.keep hk hc hv hb

set_option maxRecDepth 100000 in
set_option maxHeartbeats 16000000 in
theorem lives_good (w : World) (n old young : Nat) (hn : n ≤ 20) (ho1 : 1 ≤ old) (ho2 : old ≤ 1000) (hy1 : old < young) (hy2 : young ≤ 2000) :
    Calls Try.prog 3 #[.int .i64 n, .int .i64 old, .int .i64 young] w (RetTrue w) := by
  have b0 : decide ((n : Int) < 0) = false := by simp
  have b1 : decide ((20 : Int) < (n : Int)) = false := by simp; omega
  have b2 : decide ((old : Int) < 1) = false := by simp; omega
  have b3 : decide ((1000 : Int) < (old : Int)) = false := by simp; omega
  have b4 : decide (young ≤ old) = false := by simp; omega
  have b5 : decide ((2000 : Int) < (young : Int)) = false := by simp; omega
  go_enter Try.func3, Try.ntmps3
  go_upto_region 3 with (refine wpList_unguard rfl ?_)
  clear b0 b1 b2 b3 b4 b5
  go_upto_region 4 with (go_at_call 7; refine (new_yes _ 1 1 rfl (by omega) (by omega)).mono ?_; rintro e w1 ⟨rfl, ha1, hb1, hs1⟩; have HA1 := Lib.hid ha1; have HB1 := Lib.hid hb1; clear ha1 hb1)
  have HS1 := Lib.hid hs1
  clear hs1
  go_upto_region 5 with (go_at_call 7; refine (new_yes _ old old rfl ho1 (by omega)).mono ?_; rintro e w2 ⟨rfl, ha2, hb2, hs2⟩; have HA2 := Lib.hid ha2; have HB2 := Lib.hid hb2; clear ha2 hb2)
  have HS2 := Lib.hid hs2
  clear hs2
  go_upto_region 8 with (first
    | (refine wpList_unguard rfl ?_)
    | (go_at_call 7; refine (new_yes _ young young rfl (by omega) (by omega)).mono ?_; rintro e w3 ⟨rfl, ha3, hb3, hs3⟩; have HA3 := Lib.hid ha3; have HB3 := Lib.hid hb3; have HS3 := Lib.hid hs3; clear ha3 hb3 hs3))
  have hs1 := HS1.out
  have hs2 := HS2.out
  have hs3 := HS3.out
  have HB13 : Below w1.heap.size w1 w3 := HB2.out.trans (HB3.out.mono (by omega))
  have HW3 : Hid (SesAt w.heap.size w3 w.heap.size (.slice none 0 0) [] (aSe 0) ∧ SesAt w.heap.size w3 w1.heap.size (.slice none 0 0) [] (newSe old) ∧ SesAt w.heap.size w3 w2.heap.size (.slice none 0 0) [] (newSe young) ∧ Below w.heap.size w w3 ∧ w3.heap.size = w.heap.size + 3) := Lib.hid
    ⟨HA1.out.grow HB13, by have := HA2.out.grow HB3.out; exact ⟨by omega, this.cell, this.row.more (by omega), this.msgs⟩, ⟨by omega, HA3.out.cell, HA3.out.row.more (by omega), HA3.out.msgs⟩, HB1.out.trans (HB13.mono (by omega)), by omega⟩
  clear HB13 hs1 hs2 hs3
  have HBC : Hid (w1.heap.size = w.heap.size + 1 ∧ w2.heap.size = w.heap.size + 2) := Lib.hid ⟨HS1.out, by rw [HS2.out, HS1.out]⟩
  clear HA1 HA2 HA3 HB1 HB2 HB3 HS1 HS2 HS3
  generalize w1.heap.size = b0 at *
  generalize w2.heap.size = c0 at *
  have k1 := Lib.run_convert_bytes_const (P := Try.prog) w3 30 5 #[.int .u8 111, .int .u8 108, .int .u8 100] 3 3 Try.underlying30 Try.underlying5
  have HSO : Hid (∀ W, W = w3.alloc (.cells #[.int .u8 111, .int .u8 108, .int .u8 100] 5 (3, 4)) → Calls Try.prog 8 #[.pointer (some ⟨b0, 0, none⟩), .slice (some ⟨w3.heap.size, 0, none⟩) 3 3] W fun e w' => ∃ u, e = .returned (.tuple #[u, .int .i64 0]) ∧ RowsAt w' W.heap.size u [pktL ⟨old, 0, 0, 1, [oldM]⟩ 1 true oldM] ∧ SesNow w.heap.size W b0 (.slice none 0 0) ((newSe old).push oldM) w') := Lib.hid (fun W hW =>
    send_const w.heap.size w3 b0 (newSe old) HW3.out.2.1 (newSe_ok ho1 (by omega)) rfl HW3.out.2.2.2.1.size oldM (by decide) (by decide) (3, 4) W hW 3 rfl)
  go_upto_region 9 with (go_at_call 8; refine (HSO.out _ rfl).mono ?_; rintro e w8 ⟨q8, rfl, hr8, hn8⟩; have HR8 := Lib.hid hr8; have HN8 := Lib.hid hn8; clear hr8 hn8)
  have HD : Hid (Below w3.heap.size w3 (w3.alloc (.cells #[.int .u8 111, .int .u8 108, .int .u8 100] 5 (3, 4))) ∧ w3.heap.size + 1 = (w3.alloc (.cells #[.int .u8 111, .int .u8 108, .int .u8 100] 5 (3, 4))).heap.size) := Lib.hid ⟨(Below.refl _ _).alloc (Nat.le_refl _) _, (alloc_size _ _).symm⟩
  clear HSO k1
  generalize (w3.alloc (.cells #[.int .u8 111, .int .u8 108, .int .u8 100] 5 (3, 4))) = Wd at *
  have HW8 : Hid (SesAt w.heap.size w8 w.heap.size (.slice none 0 0) [] (aSe 0) ∧ SesAt w.heap.size w8 c0 (.slice none 0 0) [] (newSe young) ∧ Below w.heap.size w w8 ∧ w.heap.size + 3 < w8.heap.size ∧ w.heap.size + 3 < Wd.heap.size) := Lib.hid (by
    obtain ⟨v8, vs8, hb8, hk8, hg8⟩ := HN8.out
    have hd1 := HD.out.1
    have hbd := HW3.out.2.1.grow hd1
    obtain ⟨e1, e2⟩ := HBC.out
    have hsz := hk8.size
    have h3 := HW3.out.2.2.2.2
    have hd2 := HD.out.2
    exact ⟨ses_other hbd (HW3.out.1.grow hd1) hk8 (by omega) (fun g h => by cases h), ses_other hbd (HW3.out.2.2.1.grow hd1) hk8 (by omega) (fun g h => by cases h), (HW3.out.2.2.2.1.trans (hd1.mono (by omega))).trans (sesnow_below hbd HN8.out (Nat.le_refl _) (by omega)), by omega, by omega⟩)
  clear HW3 HN8 HD
  have k1 := Lib.run_convert_bytes_const (P := Try.prog) w8 30 5 #[.int .u8 121, .int .u8 111, .int .u8 117, .int .u8 110, .int .u8 103] 5 5 Try.underlying30 Try.underlying5
  have HSY : Hid (∀ W, W = w8.alloc (.cells #[.int .u8 121, .int .u8 111, .int .u8 117, .int .u8 110, .int .u8 103] 5 (5, 6)) → Calls Try.prog 8 #[.pointer (some ⟨c0, 0, none⟩), .slice (some ⟨w8.heap.size, 0, none⟩) 5 5] W fun e w' => ∃ u, e = .returned (.tuple #[u, .int .i64 0]) ∧ RowsAt w' W.heap.size u [pktL (cSe young) 1 true youngM] ∧ SesNow w.heap.size W c0 (.slice none 0 0) (cSe young) w') := Lib.hid (fun W hW =>
    send_const w.heap.size w8 c0 (newSe young) HW8.out.2.1 (newSe_ok (by omega) (by omega)) rfl HW8.out.2.2.1.size youngM (by decide) (by decide) (5, 6) W hW 5 rfl)
  go_upto_region 10 with (go_at_call 8; refine (HSY.out _ rfl).mono ?_; rintro e w9 ⟨q9, rfl, hr9, hn9⟩; have HR9 := Lib.hid hr9; have HN9 := Lib.hid hn9; clear hr9 hn9)
  have HD : Hid (Below w8.heap.size w8 (w8.alloc (.cells #[.int .u8 121, .int .u8 111, .int .u8 117, .int .u8 110, .int .u8 103] 5 (5, 6))) ∧ w8.heap.size + 1 = (w8.alloc (.cells #[.int .u8 121, .int .u8 111, .int .u8 117, .int .u8 110, .int .u8 103] 5 (5, 6))).heap.size) := Lib.hid ⟨(Below.refl _ _).alloc (Nat.le_refl _) _, (alloc_size _ _).symm⟩
  clear HSY k1
  generalize (w8.alloc (.cells #[.int .u8 121, .int .u8 111, .int .u8 117, .int .u8 110, .int .u8 103] 5 (5, 6))) = We at *
  obtain ⟨v9, vs9, hc9, hk9, hg9⟩ := HN9.out
  have HW9 : Hid (SesAt w.heap.size w9 w.heap.size (.slice none 0 0) [] (aSe 0) ∧ SesAt w.heap.size w9 c0 v9 vs9 (cSe young) ∧ Below w.heap.size w w9 ∧ w.heap.size + 3 < w9.heap.size ∧ RowsAt w9 (w.heap.size + 3) q8 [pktL ⟨old, 0, 0, 1, [oldM]⟩ 1 true oldM] ∧ RowsAt w9 (w.heap.size + 3) q9 [pktL (cSe young) 1 true youngM] ∧ c0 < w.heap.size + 3 ∧ c0 ≠ w.heap.size) := Lib.hid (by
    have hd1 := HD.out.1
    have hcd := HW8.out.2.1.grow hd1
    obtain ⟨e1, e2⟩ := HBC.out
    have hsz := hk9.size
    have hd2 := HD.out.2
    have h8 := HW8.out.2.2.2.1
    have h8d := HW8.out.2.2.2.2
    refine ⟨ses_other hcd (HW8.out.1.grow hd1) hk9 (by omega) (fun g h => by cases h), hc9, (HW8.out.2.2.1.trans (hd1.mono (by omega))).trans (sesnow_below hcd HN9.out (Nat.le_refl _) (by omega)), by omega, ?_, HR9.out.more (by omega), by omega, by omega⟩
    exact ((HR8.out.grow hd1).keep hk9 (fun k h1 h2 hf => Or.elim hf (fun e => by omega) (fun e => by cases e))).more (by omega))
  clear HW8 HN9 HD HR8 HR9 hc9 hk9 hg9 HBC
  go_wp2
  go_loopw [17] (fun s17 wr => ∃ (i : Nat) (v : Value) (vs : List Value), i ≤ n ∧ s17 = .int .i64 i ∧ Hid (SesAt w.heap.size wr w.heap.size v vs (aSe i)) ∧ Hid (Kept (fun k => k = w.heap.size) w9 wr) ∧ Hid (∀ g, v.ownBlock = some g → w9.heap.size ≤ g)) (fun s _ => n - (intOf s).toNat)
  case atStart => exact ⟨0, _, _, Nat.zero_le _, rfl, Lib.hid HW9.out.1, Lib.hid (Kept.refl _ _), Lib.hid (fun g h => by cases h)⟩
  case round =>
    obtain ⟨i, v, vs, hi, rfl, HS, HK, HV⟩ := hrel
    have hks := HK.out.size
    by_cases hlt : i < n
    · have HSI : Hid (∀ W z, z = (i : Int) → W = wr.alloc (.cells #[.int .u8 z] 5) → Calls Try.prog 8 #[.pointer (some ⟨w.heap.size, 0, none⟩), .slice (some ⟨wr.heap.size, 0, none⟩) 1 1] W fun e w' => ∃ u, e = .returned (.tuple #[u, .int .i64 0]) ∧ RowsAt w' W.heap.size u [pktL (aSe (i + 1)) (1 + i) true [UInt8.ofNat i]] ∧ SesNow w.heap.size W w.heap.size v (aSe (i + 1)) w') := Lib.hid (by
        intro W z hz hW
        have hb : Below wr.heap.size wr W := by rw [hW]; exact (Below.refl _ _).alloc (Nat.le_refl _) _
        have hbc : bc [UInt8.ofNat i] = [.int .u8 z] := by
          rw [hz]
          show [Value.int .u8 (((UInt8.ofNat i).toNat : Nat) : Int)] = _
          rw [show (UInt8.ofNat i).toNat = i from by simp; omega]
        have hr : W.rangeAt wr.heap.size 0 (bc [UInt8.ofNat i]) := by rw [hW, hbc]; exact range_new wr [.int .u8 z] _
        have hsz : W.heap.size = wr.heap.size + 1 := by rw [hW, alloc_size]
        have hal := HS.out.lt
        have hB : w.heap.size ≤ wr.heap.size := by omega
        have := send_yes w.heap.size W w.heap.size v vs (aSe i) (HS.out.grow hb) (aSe_ok (by omega)) (some ⟨wr.heap.size, 0, none⟩) 1 1 [UInt8.ofNat i] (by omega) (fun W' hk => reads_of_range (kept_range hk hr (by omega) (fun hf => Or.elim hf (fun e => by omega) (fun e => by have := (HS.out.row.lt _ e).2; omega))) (by simp [bc_length]) (by omega)) (by simp) (by show (byteMsgs i).length < 200; rw [byteMsgs_len]; omega)
        rw [aSe_push] at this
        have hwl : (aSe i).wait.length = i := byteMsgs_len i
        rw [hwl] at this
        exact this)
      have hw8 : IntKind.u8.wrap (i : Int) = (i : Int) := by rw [IntKind.wrap_u8]; omega
      go_wp2_with (go_at_call 8; refine (HSI.out _ _ (by omega) rfl).mono ?_; rintro e w13 ⟨q13, rfl, hr13, hn13⟩; obtain ⟨A13, c13, rfl⟩ := hr13.value; have HN13 := Lib.hid hn13; clear hr13 hn13)
      go_roundw
      case rel =>
        obtain ⟨v13, vs13, ha13, hk13, hg13⟩ := HN13.out
        refine ⟨i + 1, v13, vs13, by omega, by go_num, Lib.hid ha13, Lib.hid ((HK.out.alloc _).trans hk13 (fun b hb hf => ?_)), Lib.hid (fun g hg => ?_)⟩
        · rcases hf with e | e
          · exact e
          · have := HV.out b e; omega
        · rcases hg13 g hg with e | e
          · exact HV.out g e
          · rw [alloc_size] at e; omega
      case measure => simp [intOf]; omega
    · obtain rfl : n = i := by omega
      have hnn : ¬ n < n := by omega
      obtain ⟨Wf, rfl⟩ : ∃ W, W = wr := ⟨wr, rfl⟩
      have hq9 := HW9.out.2.2.2.2.2.1.keep HK.out (fun k h1 h2 e => by omega)
      obtain ⟨P9, HP9⟩ : ∃ P, Hid (pktL (cSe young) 1 true youngM = P) := ⟨_, Lib.hid rfl⟩
      obtain ⟨P8, HP8⟩ : ∃ P, Hid (pktL ⟨old, 0, 0, 1, [oldM]⟩ 1 true oldM = P) := ⟨_, Lib.hid rfl⟩
      rw [HP9.out] at hq9
      obtain ⟨ad9, cc9, A9, cd9, rfl, hcell9, hrd9, hlc9, hmc9, _, _, _⟩ := hq9.get (i := 0) rfl
      rw [show ad9.add 0 = ad9 from rfl] at hcell9
      have hBf : w.heap.size ≤ Wf.heap.size := by have := HW9.out.2.2.2.1; omega
      have HQ1 := Lib.hid (recv_any w.heap.size Wf w.heap.size v vs (aSe n) HS.out (aSe_ok hn) A9 P9.length cd9 P9 hrd9 hlc9 hmc9 hBf)
      have hl1 := lives1 (n := n) (young := young) (by omega) hy2
      rw [HP9.out] at hl1
      rw [hl1] at HQ1
      obtain ⟨L9, HL9⟩ : ∃ L, Hid (P9.length = L) := ⟨_, Lib.hid rfl⟩
      rw [HL9.out] at HQ1 hcell9
      clear hq9 hrd9 hlc9 hmc9 hl1
      go_upto_region 17 with (go_at_call 9; ((with_reducible refine HQ1.out.mono ?_); rintro e w16 ⟨gv, ov, rfl, hgr, hor, hn16⟩; have HG16 := Lib.hid hgr; have HO16 := Lib.hid hor; have HN16 := Lib.hid hn16; clear hgr hor hn16))
      obtain ⟨v16, vs16, ha16, hk16, hg16⟩ := HN16.out
      have HA16 := Lib.hid ha16
      have HK16 : Hid (Kept (fun k => k = w.heap.size) w9 w16) := Lib.hid (HK.out.trans hk16 (fun b hb hf => Or.elim hf id (fun e => by have := HV.out b e; omega)))
      have HV16 : Hid (∀ g, v16.ownBlock = some g → w9.heap.size ≤ g ∧ g < Wf.heap.size) := Lib.hid (fun g hg => ⟨HV.out g (hg16 g hg), (HS.out.row.lt g (hg16 g hg)).2⟩)
      have hs16 : Wf.heap.size ≤ w16.heap.size := hk16.size
      obtain ⟨adg, cg, Ag, cdg, rfl, hcg, hrg, _, _, _, _, _⟩ := HG16.out.get (i := 0) rfl
      rw [show adg.add 0 = adg from rfl] at hcg
      have hcg5 : w16.cell? adg = some (.slice Ag 5 cdg) := hcg
      have HRG : Hid (Reads w16 w16.heap.size 1 Ag 5 (bc [121, 111, 117, 110, 103])) := Lib.hid hrg
      clear hcg
      obtain ⟨Ao, co, rfl⟩ := HO16.out.value
      rw [outL_len] at HO16
      simp only [outL_len]
      have hq8 := HW9.out.2.2.2.2.1.keep HK16.out (fun k h1 h2 e => by omega)
      rw [HP8.out] at hq8
      obtain ⟨ad8, cc8, A8, cd8, rfl, hcell8, hrd8, hlc8, hmc8, _, _, _⟩ := hq8.get (i := 0) rfl
      rw [show ad8.add 0 = ad8 from rfl] at hcell8
      have HPE : Hid (Calls Try.prog 10 #[.pointer (some ⟨w.heap.size, 0, none⟩)] w16 fun e w' => e = .returned (.int .i64 (young : Int)) ∧ w16 = w') := Lib.hid (peer_any (B := w.heap.size) ha16 (aMet_ok hn hy2))
      have HQ2 := Lib.hid (recv_any w.heap.size w16 w.heap.size v16 vs16 (aMet n young) ha16 (aMet_ok hn hy2) A8 P8.length cd8 P8 hrd8 hlc8 hmc8 (by omega))
      have hl2 := lives2 (n := n) ho1 hy1 hy2
      rw [HP8.out] at hl2
      rw [hl2] at HQ2
      obtain ⟨L8, HL8⟩ : ∃ L, Hid (P8.length = L) := ⟨_, Lib.hid rfl⟩
      rw [HL8.out] at HQ2 hcell8
      clear hq8 hrd8 hlc8 hmc8 hl2 hrg ha16 hk16 hg16 HQ1 hcell9
      go_upto_region 20 with (first
        | (refine wpList_unguard rfl ?_)
        | (refine str_bytes w16 rfl _ rfl rfl HRG.out ?_)
        | (go_at_call 10; ((with_reducible refine HPE.out.mono ?_); rintro e w' ⟨rfl, rfl⟩))
        | (go_at_call 9; ((with_reducible refine HQ2.out.mono ?_); rintro e w19 ⟨gv2, ov2, rfl, hgr2, hor2, hn19⟩; obtain ⟨Ag2, cg2, rfl⟩ := hgr2.value; obtain ⟨Ao2, co2, rfl⟩ := hor2.value; have HN19 := Lib.hid hn19; clear hgr2 hor2 hn19)))
      obtain ⟨v19, vs19, ha19, hk19, hg19⟩ := HN19.out
      have HPE2 : Hid (Calls Try.prog 10 #[.pointer (some ⟨w.heap.size, 0, none⟩)] w19 fun e w' => e = .returned (.int .i64 (young : Int)) ∧ w19 = w') := Lib.hid (peer_any (B := w.heap.size) ha19 (aMet_ok hn hy2))
      have HK19 : Hid (Kept (fun k => k = w.heap.size) w9 w19) := Lib.hid (HK16.out.trans hk19 (fun b hb hf => Or.elim hf id (fun e => by have := (HV16.out b e).1; omega)))
      have HO19 : Hid (RowsAt w19 Wf.heap.size (.slice Ao (n + 1) co) (outL n young)) := Lib.hid (HO16.out.keep hk19 (fun k h1 h2 hf => Or.elim hf (fun e => by omega) (fun e => by have := (HV16.out k e).2; omega)))
      have HC19 : Hid (SesAt w.heap.size w19 c0 v9 vs9 (cSe young)) := Lib.hid (HW9.out.2.1.keep HK19.out HW9.out.2.2.2.2.2.2.2 (fun g hg e => row_apart_blk HW9.out.2.1.row HW9.out.1.cell (by decide) (by rw [hg, e])) (fun g cc hg e => by
        rw [e, HW9.out.1.cell] at hg
        injection hg with hg
        injection hg with _ hg
        cases hg))
      have HL19 : Hid (Below w.heap.size w w19) := Lib.hid (HW9.out.2.2.1.trans (HK19.out.below HW9.out.2.2.1.size (fun k e => by omega)))
      have HV9 : Hid (∀ g, v9.ownBlock = some g → g < w9.heap.size) := Lib.hid (fun g hg => (HW9.out.2.1.row.lt g hg).2)
      have hs19 : w16.heap.size ≤ w19.heap.size := hk19.size
      have hc0 : c0 < w.heap.size + 3 := HW9.out.2.2.2.2.2.2.1
      have hc0a : w.heap.size ≤ c0 := HW9.out.2.1.lo
      have hw93 : w.heap.size + 3 < w9.heap.size := HW9.out.2.2.2.1
      clear HQ2 HPE hcell8 HG16 HN16 HA16 HK16 HO16 HRG hcg5 HN19 ha19 hk19 hg19 HS HK HV HV16 HK19 HW9
      go_upto_region 22 with (first
        | (refine wpList_unguard rfl ?_)
        | (go_at_call 10; ((with_reducible refine HPE2.out.mono ?_); rintro e w' ⟨rfl, rfl⟩)))
      have hny : 1 < young := by omega
      have h919 : w9.heap.size ≤ w19.heap.size := by omega
      have hc019 : c0 < w19.heap.size := by omega
      obtain ⟨N1, hN1⟩ : ∃ N, n + 1 = N := ⟨_, rfl⟩
      have HN1 := Lib.hid hN1
      rw [hN1] at HO19 ⊢
      clear hN1
      go_wp2
      go_loopw [26, 27] (fun s26 s27 ww => ∃ (j : Nat) (us : List Value) (v : Value) (vs : List Value) (s : Se), j ≤ N1 ∧ s27 = .int .i64 j ∧ Hid (Row ww w19.heap.size 30 s26 (min j n) us) ∧ Hid (OwnBs ww w19.heap.size us (byteMsgs (min j n))) ∧ Hid (SesAt w.heap.size ww c0 v vs s) ∧ Hid s.Ok ∧ Hid (j ≤ n → s = cAt young j) ∧ Hid (j = N1 → s.wait = []) ∧ Hid (Kept (fun k => k = c0 ∨ v9.ownBlock = some k) w19 ww) ∧ Hid (∀ g, v.ownBlock = some g → v9.ownBlock = some g)) (fun _ s _ => N1 - (intOf s).toNat)
      case atStart => exact ⟨0, [], _, _, _, Nat.zero_le _, rfl, Lib.hid (by rw [Nat.zero_min]; exact Row.nil_ _ _ _), Lib.hid (by rw [Nat.zero_min]; exact ⟨rfl, fun i u m h => by simp at h⟩), HC19, Lib.hid (cAt_ok (j := 0) (by omega) hy2 (by omega)), Lib.hid (fun _ => rfl), Lib.hid (fun e => by have := HN1.out; omega), Lib.hid (Kept.refl _ _), Lib.hid (fun g h => h)⟩
      case round =>
        obtain ⟨j, us, v, vs, s, hj, rfl, HR, HO, HS, HOK, HSJ, HSW, HK, HV⟩ := hrel
        have hks2 := HK.out.size
        obtain ⟨Al, cl, rfl, _⟩ := HR.out.form
        have HVK : Hid (∀ k, foot c0 v k → k < w19.heap.size ∧ (k = c0 ∨ v9.ownBlock = some k)) := Lib.hid (fun k hf => Or.elim hf (fun e => ⟨by omega, .inl e⟩) (fun e => ⟨by have := HV9.out k (HV.out k e); omega, .inr (HV.out k e)⟩))
        by_cases hlt : j < N1
        · have hOr := HO19.out.keep HK.out (fun k h1 h2 hf => Or.elim hf (fun e => by omega) (fun e => by have := HV9.out k e; omega))
          by_cases hjn : j < n
          · -- [[P
            have hmin : min j n = j := Nat.min_eq_left (by omega)
            have hmin2 : min (j + 1) n = j + 1 := Nat.min_eq_left (by omega)
            have HM2 := Lib.hid hmin2
            rw [hmin] at HR HO
            simp only [hmin]
            have hsj := HSJ.out (by omega)
            subst hsj
            obtain ⟨P, HP⟩ : ∃ P, Hid (pktL ⟨1, young, 0, 1, byteMsgs n⟩ (1 + j) true [UInt8.ofNat j] = P) := ⟨_, Lib.hid rfl⟩
            have hget := outL_get (n := n) (young := young) hjn
            rw [HP.out] at hget
            obtain ⟨ad, c1, A1, c1', hsl, hcell, hrd, hlc, hmc, _, _, _⟩ := hOr.get hget
            injection hsl with q1 q2 q3
            clear q2
            subst q1 q3
            have hB : w.heap.size ≤ wr.heap.size := by omega
            obtain ⟨l1, l2, l3⟩ := lives3 hny hy2 hjn hn
            rw [HP.out] at l1 l2 l3
            have HQ : Hid (Calls Try.prog 9 #[.pointer (some ⟨c0, 0, none⟩), .slice A1 P.length c1'] wr fun e w' => ∃ ag cg o u, e = .returned (.tuple #[.slice (some ag) 1 cg, o, .int .i64 0]) ∧ Reads w' w'.heap.size 1 (some ag) 1 [u] ∧ OwnB w' wr.heap.size u [UInt8.ofNat j] ∧ SesRec w.heap.size wr c0 v (cAt young (j + 1)) w') := Lib.hid ((recv_any w.heap.size wr c0 v vs (cAt young j) HS.out HOK.out A1 P.length c1' P hrd hlc hmc hB).mono (fun e w' hh => by
              obtain ⟨g, o, h1, h2, h3, h4⟩ := hh
              rw [l3] at h1
              rw [l2] at h2
              rw [l1] at h4
              obtain ⟨usg, hrg, hog⟩ := h2
              obtain ⟨u, rfl⟩ : ∃ u, usg = [u] := by
                have := hog.len
                match usg, this with
                | [u], _ => exact ⟨u, rfl⟩
              obtain ⟨Ag3, cg, hg, _, _, hrd3⟩ := hrg.form
              obtain ⟨ag, _, hag, _⟩ := hrd3.at_ (k := 0) (show 0 < 1 by omega)
              subst hag
              exact ⟨ag, cg, o, u, by rw [h1, hg]; rfl, hrd3, hog.at_ 0 u _ rfl rfl, h4⟩))
            obtain ⟨PL, HPL⟩ : ∃ L, Hid (P.length = L) := ⟨_, Lib.hid rfl⟩
            rw [HPL.out] at HQ hcell
            clear hrd hlc hmc hget l1 l2 l3 hmin hmin2 HSJ hOr
            refine code_hide (fun Q0 HQ0 => ?_)
            go_wp2_with (first
              | (go_at_call 9; ((with_reducible refine HQ.out.mono ?_); rintro e w26 ⟨ag, cg, ov3, qu, rfl, hrdg, hog, hn26⟩; have HRDG := Lib.hid hrdg; have HOG := Lib.hid hog; have HN26 := Lib.hid hn26; clear hog hrdg hn26; obtain ⟨v26, vs26, hs26, hk26, hv26⟩ := HN26.out; have HS26 := Lib.hid hs26; have HK26 := Lib.hid hk26; have HV26 := Lib.hid hv26; clear hs26 hk26 hv26; have HR26 : Hid (Row w26 w19.heap.size 30 (.slice Al j cl) j us) := Lib.hid (HR.out.keep HK26.out (fun g hg hf => by have := (HVK.out g hf).1; have := (HR.out.lt g hg).1; omega))))
              | (at_builtin; refine app_rows _ rfl (.tmp 202) (.tmp 203) rfl w19.heap.size _ j us rfl HR26.out _ _ 1 _ [qu] rfl HRDG.out (by omega) (by intro x hx; simp at hx; subst hx; obtain ⟨_, _, eq, _⟩ := HOG.out.value; rw [eq]; rfl) (by omega) (by have := HK26.out.size; omega) ?_; intro v29 w29 ho29 hk29 hg29; have HO29 := Lib.hid ho29; have HK29 := Lib.hid hk29; obtain ⟨A29, c29, rfl, _⟩ := ho29.form; clear ho29 hk29 hg29))
            refine hide_out HQ0 ?_
            go_step
            go_roundw
            case rel =>
              obtain ⟨r4, r5, r7, r8⟩ := lives_rel (m2 := byteMsgs (j + 1)) HS.out HK.out HR26.out HO.out HK26.out HS26.out HV26.out HV.out HV9.out h919 hc019 HO29.out HK29.out (.inr (.inr ⟨qu, [UInt8.ofNat j], rfl, byteMsgs_succ j, HOG.out.more hks2⟩))
              have hm2 := HM2.out
              have r1 : j + 1 ≤ N1 := hlt
              have r2 : j + 1 ≠ N1 := by have := HN1.out; omega
              refine ⟨j + 1, us ++ [qu], v26, vs26, cAt young (j + 1), r1, by go_num, Lib.hid ?_, Lib.hid ?_, Lib.hid r5, Lib.hid (cAt_ok (Nat.le_of_lt hny) hy2 (Nat.le_trans hjn hn)), Lib.hid (fun _ => rfl), Lib.hid (fun e => absurd e r2), Lib.hid r7, Lib.hid r8⟩
              · rw [hm2]; exact HO29.out
              · rw [hm2]; exact r4
            case measure => simp [intOf]; omega
            -- ]]P
          · -- [[Q
            obtain rfl : n = j := by have := HN1.out; omega
            have hmin : min n n = n := Nat.min_self n
            rw [hmin] at HR HO
            simp only [hmin]
            have hsj := HSJ.out (Nat.le_refl _)
            subst hsj
            obtain ⟨P, HP⟩ : ∃ P, Hid (pktL (aMet n young) 0 false [] = P) := ⟨_, Lib.hid rfl⟩
            have hget := outL_last n young
            rw [HP.out] at hget
            obtain ⟨ad, c1, A1, c1', hsl, hcell, hrd, hlc, hmc, _, _, _⟩ := hOr.get hget
            injection hsl with q1 q2 q3
            clear q2
            subst q1 q3
            have hB : w.heap.size ≤ wr.heap.size := by omega
            obtain ⟨l1, l2, l3, l4⟩ := lives4 (n := n) hny hy2 hn
            rw [HP.out] at l1 l2 l3 l4
            have HQ : Hid (Calls Try.prog 9 #[.pointer (some ⟨c0, 0, none⟩), .slice A1 P.length c1'] wr fun e w' => ∃ Ag3 cg o s', e = .returned (.tuple #[.slice Ag3 0 cg, o, .int .i64 0]) ∧ s'.wait = [] ∧ s'.Ok ∧ SesRec w.heap.size wr c0 v s' w') := Lib.hid ((recv_any w.heap.size wr c0 v vs (cAt young n) HS.out HOK.out A1 P.length c1' P hrd hlc hmc hB).mono (fun e w' hh => by
              obtain ⟨g, o, h1, h2, h3, h4⟩ := hh
              rw [l3] at h1
              rw [l2] at h2
              obtain ⟨Ag3, cg, hg⟩ := h2.value
              exact ⟨Ag3, cg, o, _, by rw [h1, hg]; rfl, l1, l4, h4⟩))
            obtain ⟨PL, HPL⟩ : ∃ L, Hid (P.length = L) := ⟨_, Lib.hid rfl⟩
            rw [HPL.out] at HQ hcell
            clear hrd hlc hmc hget l1 l2 l3 l4 hmin HSJ hOr
            refine code_hide (fun Q0 HQ0 => ?_)
            go_wp2_with (first
              | (go_at_call 9; ((with_reducible refine HQ.out.mono ?_); rintro e w26 ⟨Ag3, cg, ov3, sn, rfl, hsw, hsok, hn26⟩; have HSWN := Lib.hid hsw; have HSOK := Lib.hid hsok; have HN26 := Lib.hid hn26; clear hsw hsok hn26; obtain ⟨v26, vs26, hs26, hk26, hv26⟩ := HN26.out; have HS26 := Lib.hid hs26; have HK26 := Lib.hid hk26; have HV26 := Lib.hid hv26; clear hs26 hk26 hv26; have HR26 : Hid (Row w26 w19.heap.size 30 (.slice Al n cl) n us) := Lib.hid (HR.out.keep HK26.out (fun g hg hf => by have := (HVK.out g hf).1; have := (HR.out.lt g hg).1; omega))))
              | (at_builtin; refine app_rows0 _ rfl (.tmp 202) (.tmp 203) rfl w19.heap.size _ n us rfl HR26.out _ _ rfl (by have := HK26.out.size; omega) ?_; intro v29 w29 ho29 hk29; have HO29 := Lib.hid ho29; have HK29 := Lib.hid hk29; obtain ⟨A29, c29, rfl, _⟩ := ho29.form; clear ho29 hk29))
            refine hide_out HQ0 ?_
            go_step
            go_roundw
            case rel =>
              obtain ⟨r4, r5, r7, r8⟩ := lives_rel (news := []) HS.out HK.out HR26.out HO.out HK26.out HS26.out HV26.out HV.out HV9.out h919 hc019 (k := n) (v29 := .slice A29 n c29) (by rw [List.append_nil]; exact HO29.out) HK29.out (.inr (.inl ⟨rfl, rfl⟩))
              rw [List.append_nil] at r4
              have hm1 : min (n + 1) n = n := Nat.min_eq_right (Nat.le_succ n)
              have r1 : n + 1 ≤ N1 := hlt
              refine ⟨n + 1, us, v26, vs26, sn, r1, by go_num, Lib.hid ?_, Lib.hid ?_, Lib.hid r5, HSOK, Lib.hid (fun e => absurd e (Nat.not_succ_le_self n)), Lib.hid (fun _ => HSWN.out), Lib.hid r7, Lib.hid r8⟩
              · rw [hm1]; exact HO29.out
              · rw [hm1]; exact r4
            case measure => simp [intOf]; omega
            -- ]]Q
        · obtain rfl : N1 = j := by omega
          -- [[R
          have hmin : min N1 n = n := Nat.min_eq_right (by have := HN1.out; omega)
          rw [hmin] at HR HO
          simp only [hmin]
          have HWT : Hid (Calls Try.prog 11 #[.pointer (some ⟨c0, 0, none⟩)] wr fun e w' => e = .returned (.int .i64 0) ∧ wr = w') := Lib.hid (by have := waiting_any HS.out HOK.out; rw [HSW.out rfl] at this; exact this)
          have HLW : Hid (Below w.heap.size w wr) := Lib.hid (HL19.out.trans (HK.out.below (by omega) (fun k hf => Or.elim hf (fun e => by omega) (fun e => (HC19.out.row.lt k e).1))))
          have HALL : Hid (RowsAt wr w19.heap.size (.slice Al n cl) (byteMsgs n)) := Lib.hid ⟨us, by rw [byteMsgs_len]; exact HR.out, HO.out⟩
          clear hmin HSJ HSW HR HO HVK
          obtain ⟨Wg, rfl⟩ : ∃ W, W = wr := ⟨wr, rfl⟩
          go_wp2
          go_loopw [31] (fun s31 ww => ∃ (k : Nat), k ≤ n ∧ s31 = .int .i64 k ∧ Wg = ww) (fun s _ => n - (intOf s).toNat)
          case atStart => exact ⟨0, Nat.zero_le _, rfl, rfl⟩
          case round =>
            obtain ⟨k, hk, rfl, rfl⟩ := hrel
            by_cases hkn : k < n
            · obtain ⟨ad, c1, A1, c1', hsl, hcell, hrd, hlc, hmc, _, _, _⟩ := HALL.out.get (byteMsgs_get hkn)
              injection hsl with q1 q2 q3
              clear q2
              subst q1 q3
              have hcell1 : Wg.cell? (ad.add k) = some (.slice A1 1 c1') := hcell
              have hrd1 : Reads Wg Wg.heap.size 1 A1 1 (bc [UInt8.ofNat k]) := hrd
              obtain ⟨adb, ub, rfl, _, hub, hcb⟩ := hrd1.at_ (k := 0) (by omega)
              have hubv : ub = .int .u8 (k : Int) := by
                injection hub with hub
                rw [← hub]
                show Value.int .u8 (((UInt8.ofNat k).toNat : Nat) : Int) = _
                rw [show (UInt8.ofNat k).toNat = k from by simp; omega]
              rw [hubv, show adb.add 0 = adb from rfl] at hcb
              have hw8 : IntKind.u8.wrap (k : Int) = (k : Int) := by rw [IntKind.wrap_u8]; omega
              have hw9 : (k : Int) % 256 = (k : Int) := by omega
              clear hcell hrd hrd1 hub hubv hlc hmc
              refine code_hide (fun Q0 HQ0 => ?_)
              go_wp2_with (refine wpList_unguard rfl ?_)
              refine hide_out HQ0 ?_
              go_step
              go_roundw
              case rel => exact ⟨k + 1, by omega, by go_num, trivial⟩
              case measure => simp [intOf]; omega
            · obtain rfl : n = k := by omega
              have hkk : ¬ n < n := by omega
              go_wp2_with (first
                | (refine wpList_unguard rfl ?_)
                | (go_at_call 11; ((with_reducible refine HWT.out.mono ?_); rintro e w' ⟨rfl, rfl⟩))
                | (go_at_call 6; refine (awake_any _).mono ?_; rintro e w' ⟨rfl, hb⟩))
              go_ret
              exact RetTrue.from HLW.out ⟨rfl, hb⟩
          -- ]]R
end Go.Proofs.Ytchhejheobceiaa
