/- The walk of awake. No condition. -/
import Derived.Test.YtchhejheobceiaaSes8
namespace Go.Proofs.Ytchhejheobceiaa
open Go.RowKit
set_option linter.unusedVariables false

theorem range_newm (w : World) (cs : List Value) (e : TypeId) (m : Nat × Nat) : (w.alloc (.cells cs.toArray e m)).rangeAt w.heap.size 0 cs := fun j v hv => by
  rw [Nat.zero_add, cell_of_row (w.alloc (.cells cs.toArray e m)) w.heap.size j cs.toArray e m (heap_alloc_new w _)]; simpa using hv
theorem ses_other {B B' : Nat} {w w1 : World} {a b : Nat} {v u : Value} {vs us : List Value} {s t : Se} (ha : SesAt B w a v vs s) (hb : SesAt B' w b u us t) (hk : Kept (foot a v) w w1) (hne : a ≠ b) (hr : ∀ g, u.ownBlock = some g → v.ownBlock ≠ some g) : SesAt B' w1 b u us t := by
  refine hb.keep hk (fun hf => ?_) (fun g hg hf => ?_) (fun g c hg hf => ?_)
  · rcases hf with e | e
    · exact hne e.symm
    · exact row_apart_blk ha.row hb.cell (by decide) e
  · rcases hf with rfl | e
    · exact row_apart_blk hb.row ha.cell (by decide) hg
    · exact hr g hg e
  · rcases hf with rfl | e
    · rw [ha.cell] at hg; injection hg with hg; injection hg with _ hg; cases hg
    · exact row_apart_blk ha.row hg (by decide) e
theorem sesnow_below {B : Nat} {w w1 : World} {a : Nat} {v : Value} {vs : List Value} {s s' : Se} {base : Nat} (h : SesAt B w a v vs s) (hn : SesNow B w a v s' w1) (hb : base ≤ B) (hw : base ≤ w.heap.size) : Below base w w1 := by
  obtain ⟨v', vs', h1, h2, h3⟩ := hn
  exact h2.below hw (fun k hf => Or.elim hf (fun e => by rw [e]; exact Nat.le_trans hb h.lo) (fun e => Nat.le_trans hb (h.row.lt k e).1))
set_option maxRecDepth 100000 in
set_option maxHeartbeats 4000000 in
theorem awake_any (w : World) : Calls Try.prog 6 #[] w (RetTrue w) := by
  go_enter Try.func6, Try.ntmps6
  go_upto_region 2 with (go_at_call 7; refine (new_yes _ 1 1 rfl (by omega) (by omega)).mono ?_; rintro e w1 ⟨rfl, ha1, hb1, hs1⟩; have HA1 := Lib.hid ha1; have HB1 := Lib.hid hb1; clear ha1 hb1)
  go_upto_region 5 with (first
    | (refine wpList_unguard rfl ?_)
    | (go_at_call 7; refine (new_yes _ 1 1 rfl (by omega) (by omega)).mono ?_; rintro e w2 ⟨rfl, ha2, hb2, hs2⟩; have HA2 := Lib.hid ha2; have HB2 := Lib.hid hb2; clear ha2 hb2))
  have HW2 : Hid (SesAt w.heap.size w2 w.heap.size (.slice none 0 0) [] se1 ∧ SesAt w.heap.size w2 w1.heap.size (.slice none 0 0) [] se1 ∧ Below w.heap.size w w2) := Lib.hid
    ⟨HA1.out.grow HB2.out, ⟨by omega, HA2.out.cell, HA2.out.row.more (by omega), HA2.out.msgs⟩, HB1.out.trans (HB2.out.mono (by omega))⟩
  rw [hs1] at HW2
  have k1 := Lib.run_convert_bytes_const (P := Try.prog) w2 30 5 #[.int .u8 97] 1 1 Try.underlying30 Try.underlying5
  have HZ2 : Hid (w2.heap.size = w.heap.size + 2) := Lib.hid (by omega)
  clear HA1 HA2 HB1 HB2 hs1 hs2
  have HSD : Hid (∀ W, W = w2.alloc (.cells #[.int .u8 97] 5 (1, 2)) → Calls Try.prog 8 #[.pointer (some ⟨w.heap.size, 0, none⟩), .slice (some ⟨w2.heap.size, 0, none⟩) 1 1] W fun e w' => ∃ u, e = .returned (.tuple #[u, .int .i64 0]) ∧ RowsAt w' W.heap.size u [pktL (se1.push [97]) 1 true [97]] ∧ SesNow w.heap.size W w.heap.size (.slice none 0 0) (se1.push [97]) w') := Lib.hid (by
    intro W hW
    have hb : Below w2.heap.size w2 W := by rw [hW]; exact (Below.refl _ _).alloc (Nat.le_refl _) _
    have hr : W.rangeAt w2.heap.size 0 (bc [97]) := by rw [hW]; exact range_newm w2 (bc [97]) _ _
    have hsz : W.heap.size = w2.heap.size + 1 := by rw [hW, alloc_size]
    have hz := HZ2.out
    refine send_yes w.heap.size W w.heap.size (.slice none 0 0) [] se1 (HW2.out.1.grow hb) se1_ok (some ⟨w2.heap.size, 0, none⟩) 1 1 [97] (by omega) (fun W' hk => reads_of_range (kept_range hk hr (by omega) (fun hf => Or.elim hf (fun e => by omega) (fun e => by cases e))) rfl (by omega)) (by omega) (by decide))
  go_upto_region 6 with (first
    | (go_at_call 8; refine (HSD.out _ rfl).mono ?_; rintro e w3 ⟨u3, rfl, hr3, hn3⟩; have HR3 := Lib.hid hr3; have HN3 := Lib.hid hn3; clear hr3 hn3))
  have HC : Hid (Below w2.heap.size w2 (w2.alloc (.cells #[.int .u8 97] 5 (1, 2))) ∧ w2.heap.size + 1 = (w2.alloc (.cells #[.int .u8 97] 5 (1, 2))).heap.size) := Lib.hid ⟨(Below.refl _ _).alloc (Nat.le_refl _) _, (alloc_size _ _).symm⟩
  clear HSD k1
  generalize (w2.alloc (.cells #[.int .u8 97] 5 (1, 2))) = Wc at *
  have hz2 := HZ2.out
  have hzc := HC.out.2
  have HAC := HW2.out.1.grow HC.out.1
  obtain ⟨v3, vs3, ha3, hk3, hg3⟩ := HN3.out
  have HA3 := Lib.hid ha3
  have HB3 : Hid (SesAt w.heap.size w3 (w.heap.size + 1) (.slice none 0 0) [] se1) := Lib.hid (ses_other HAC (HW2.out.2.1.grow HC.out.1) hk3 (by omega) (fun g h => by cases h))
  have HL3 : Hid (Below w.heap.size w w3) := Lib.hid ((HW2.out.2.2.trans (HC.out.1.mono (by omega))).trans (sesnow_below HAC HN3.out (Nat.le_refl _) (by omega)))
  obtain ⟨P1, HP1⟩ : ∃ P, Hid (pktL (se1.push [97]) 1 true [97] = P) := ⟨_, Lib.hid rfl⟩
  rw [HP1.out] at HR3
  have HW1 := Lib.hid aw1
  rw [HP1.out] at HW1
  obtain ⟨P2, HP2⟩ : ∃ P, Hid (pktL ⟨1, 1, 1, 1, []⟩ 0 false [] = P) := ⟨_, Lib.hid rfl⟩
  have HW2' := Lib.hid aw2
  rw [HP2.out] at HW1 HW2'
  obtain ⟨ad, c3, A3, c3', rfl, hcell3, hrd3, hlc3, hmc3, _, _, _⟩ := HR3.out.get (i := 0) rfl
  rw [show ad.add 0 = ad from rfl] at hcell3
  have HQ := Lib.hid (recv_any w.heap.size w3 (w.heap.size + 1) (.slice none 0 0) [] se1 HB3.out se1_ok A3 P1.length c3' P1 hrd3 hlc3 hmc3 HL3.out.size)
  rw [HW1.out] at HQ
  obtain ⟨L1, HL1⟩ : ∃ L, Hid (P1.length = L) := ⟨_, Lib.hid rfl⟩
  rw [HL1.out] at HQ hcell3
  clear hrd3 hlc3 hmc3 ha3 hk3 hg3 HAC
  go_upto_region 9 with (go_at_call 9; ((with_reducible refine HQ.out.mono ?_); rintro e w4 ⟨gv, ov, rfl, hgr4, hor4, hn4⟩; have HG4 := Lib.hid hgr4; have HO4 := Lib.hid hor4; have HN4 := Lib.hid hn4; clear hgr4 hor4 hn4))
  obtain ⟨v4, vs4, hb4, hk4, _⟩ := HN4.out
  have HA4 : Hid (SesAt w.heap.size w4 w.heap.size v3 vs3 (se1.push [97])) := Lib.hid (ses_other HB3.out HA3.out hk4 (by omega) (fun g _ e => by cases e))
  have HL4 : Hid (Below w.heap.size w w4) := Lib.hid (HL3.out.trans (sesnow_below HB3.out HN4.out.now (Nat.le_refl _) HL3.out.size))
  obtain ⟨adg, cg, Ag, cg', rfl, hcg, hrg, _, _, _, _, _⟩ := HG4.out.get (i := 0) rfl
  obtain ⟨ado, co, Ao, co', rfl, hco, hro, hlo, hmo, _, _, _⟩ := HO4.out.get (i := 0) rfl
  rw [show adg.add 0 = adg from rfl] at hcg
  rw [show ado.add 0 = ado from rfl] at hco
  have HRG := Lib.hid hrg
  have hpo : (se1.push [97]).Ok := push_ok se1_ok (by decide) (by decide)
  have HQ2 := Lib.hid (recv_any w.heap.size w4 w.heap.size v3 vs3 (se1.push [97]) HA4.out hpo Ao P2.length co' P2 hro hlo hmo HL4.out.size)
  rw [HW2'.out] at HQ2
  obtain ⟨L2, HL2⟩ : ∃ L, Hid (P2.length = L) := ⟨_, Lib.hid rfl⟩
  rw [HL2.out] at HQ2 hco
  clear hrg hro hlo hmo hb4 hk4 hpo hcell3 HQ
  go_upto_region 12 with (first
    | (refine wpList_unguard rfl ?_)
    | (refine str_bytes w4 rfl _ rfl rfl HRG.out ?_)
    | (go_at_call 9; ((with_reducible refine HQ2.out.mono ?_); rintro e w5 ⟨gv5, ov5, rfl, hgr5, hor5, hn5⟩; have HN5 := Lib.hid hn5; clear hgr5 hor5 hn5)))
  obtain ⟨v5, vs5, ha5, hk5, _⟩ := HN5.out
  have HL5 : Hid (Below w.heap.size w w5) := Lib.hid (HL4.out.trans (sesnow_below HA4.out HN5.out.now (Nat.le_refl _) HL4.out.size))
  have hok5 : (⟨1, 1, 0, 2, []⟩ : Se).Ok := ⟨⟨by decide, by decide⟩, by decide, by decide, ⟨by decide, by decide⟩, by decide, fun m h => by cases h⟩
  have HWT := Lib.hid (waiting_any (B := w.heap.size) ha5 hok5)
  have HPE := Lib.hid (peer_any (B := w.heap.size) ha5 hok5)
  go_wp2_with (first
    | (refine wpList_unguard rfl ?_)
    | (go_at_call 11; ((with_reducible refine HWT.out.mono ?_); rintro e w6 ⟨rfl, rfl⟩))
    | (go_at_call 10; ((with_reducible refine HPE.out.mono ?_); rintro e w6 ⟨rfl, rfl⟩)))
  go_ret
  exact ⟨rfl, HL5.out⟩
end Go.Proofs.Ytchhejheobceiaa
