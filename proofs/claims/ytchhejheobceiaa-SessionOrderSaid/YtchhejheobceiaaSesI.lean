/- The reference session's Tick. No condition. -/
import Derived.Test.YtchhejheobceiaaSesH
namespace Go.Proofs.Ytchhejheobceiaa
open Go.RowKit
set_option linter.unusedVariables false

section
variable (B : Nat) (w : World) (a : Nat) (v : Value) (vs : List Value) (s : Se) (h : RsAt B w a v vs s) (hok : s.Ok)
include h hok
set_option maxRecDepth 100000 in
set_option maxHeartbeats 4000000 in
theorem rtick_any : Calls Try.prog 26 #[.pointer (some ⟨a, 0, none⟩)] w fun e w' => ∃ u, e = .returned u ∧ RowsAt w' w.heap.size u (tickL s) ∧ Below w.heap.size w w' := by
  have HS := Lib.hid h
  have HOK := Lib.hid hok
  obtain ⟨_, _, _, c3, _⟩ := h.cells_
  obtain ⟨Av, cv, rfl, _⟩ := h.row.form
  obtain ⟨N, HN⟩ : ∃ N, Hid (s.wait.length = N) := ⟨_, Lib.hid rfl⟩
  have hN : N ≤ 200 := by rw [← HN.out]; exact hok.wait
  rw [HN.out] at c3
  obtain ⟨fi, HFI⟩ : ∃ fi, Hid (s.first = fi) := ⟨_, Lib.hid rfl⟩
  have hf1 : 1 ≤ fi := by rw [← HFI.out]; exact hok.first.1
  have hf2 : fi ≤ 2000000000000 := by rw [← HFI.out]; exact hok.first.2
  have hal := h.lt
  clear h hok
  go_enter Try.func26, Try.ntmps26
  go_wp2
  go_loopw [3, 4] (fun out k wr => ∃ (j : Nat) (us : List Value), j ≤ N ∧ k = .int .i64 j ∧ Hid (Row wr w.heap.size 30 out j us) ∧ Hid (OwnBs wr w.heap.size us ((tickL s).take j)) ∧ Hid (Below w.heap.size w wr)) (fun _ k _ => N - (intOf k).toNat)
  case atStart => exact ⟨0, [], Nat.zero_le _, rfl, Lib.hid (Row.nil_ _ _ _), Lib.hid ⟨rfl, fun i u m h => by simp at h⟩, Lib.hid (Below.refl _ _)⟩
  case round =>
    obtain ⟨j, us, hj, rfl, HR, HO, HB⟩ := hrel
    obtain ⟨Ao, co, rfl, _⟩ := HR.out.form
    have hbs := HB.out.size
    have HSR : Hid (RsAt B wr a (.slice Av s.wait.length cv) vs s) := Lib.hid (HS.out.grow HB.out)
    have d3 : wr.cell? ⟨a, 3, none⟩ = some (.slice Av N cv) := (HB.out.cell (p := ⟨a, 3, none⟩) hal).trans c3
    by_cases hlt : j < N
    · obtain ⟨_, _, c2, _, _⟩ := HSR.out.cells_
      rw [HFI.out] at c2
      obtain ⟨m, hm⟩ : ∃ m, s.wait[j]? = some m := ⟨_, List.getElem?_eq_getElem (by rw [HN.out]; exact hlt)⟩
      obtain ⟨_, _, e, _, _, hrd⟩ := HSR.out.row.form
      injection e with e1 e2 e3
      subst e1 e3
      rw [HN.out] at hrd
      obtain ⟨ad, u, rfl, hab, hu, hcell⟩ := hrd.at_ hlt
      have HOM := Lib.hid (HSR.out.msgs.at_ j u m hu hm)
      obtain ⟨Am, cm, rfl, _, _, hom⟩ := HOM.out.value
      have HOR := Lib.hid hom
      have HMM : Hid (m.length ≤ 65536) := Lib.hid (HOK.out.msg m (List.mem_of_getElem? hm))
      have HTS := Lib.hid (tickL_succ hm)
      rw [HFI.out] at HTS
      clear hrd hu hm hom c3
      obtain ⟨ml, HML⟩ : ∃ ml, Hid (m.length = ml) := ⟨_, Lib.hid rfl⟩
      rw [HML.out] at hcell HOR HMM
      have w1 : IntKind.i64.wrap ((fi : Int) + (j : Int)) = (fi : Int) + (j : Int) := IntWalk.i64_in _ (by omega)
      obtain ⟨PK, HPK1⟩ : ∃ PK, Hid (pktL s (fi + j) true m = PK) := ⟨_, Lib.hid rfl⟩
      obtain ⟨pl, HPL⟩ : ∃ pl, Hid (PK.length = pl) := ⟨_, Lib.hid rfl⟩
      have HPK : Hid (∀ z, z = ((fi + j : Nat) : Int) → Calls Try.prog 34 #[.pointer (some ⟨a, 0, none⟩), .int .i64 z, .slice Am ml cm, .bool true] wr.drew fun e w' => ∃ u, e = .returned u ∧ OwnB w' wr.heap.size u PK ∧ Below wr.heap.size wr w') := Lib.hid fun z hz => by
        rw [← HPK1.out]
        refine (rpacket_z wr.drew a s (HSR.out.grow (Below.refl _ _).drew) HOK.out z (fi + j) hz (by omega) true Am ml cm m (HOR.out.below (Below.refl wr.heap.size wr).drew) HMM.out (by simp)).mono ?_
        rintro e w' ⟨u, h1, h2, h3⟩
        exact ⟨u, h1, h2, (Below.refl wr.heap.size wr).drew.trans h3⟩
      go_upto_region 5 with fail
      go_region_law (first
        | (refine step_app_rows _ rfl (.tmp 14) (.tmp 30) rfl w.heap.size _ j us rfl HR3.out _ _ 1 _ [.slice Au pl cu] rfl (by have := reads_new1 w3 (.slice Au pl cu) 30; exact this) (by omega) (by intro u hu; simp at hu; subst hu; rfl) (by omega) (by rw [alloc_size]; omega) ?_; intro v4 w4 ho4 hk4 hg4; have HO4 := Lib.hid ho4; have HK4 := Lib.hid hk4; obtain ⟨A4, c4', rfl, _⟩ := ho4.form; clear ho4 hk4 hg4)
        | (go_simp; go_at_call 34; ((with_reducible refine (HPK.out _ (by omega)).mono ?_); rintro e w3 ⟨q3, rfl, ho3, hb3⟩; have HO3 := Lib.hid ho3; obtain ⟨Au, cu, hvq, _⟩ := ho3.value; rw [HPL.out] at hvq; subst hvq; have HB3 := Lib.hid hb3; have hs3 := hb3.size; have HR3 : Hid (Row (w3.alloc (.cells #[.slice Au pl cu] 30)) w.heap.size 30 (.slice Ao j co) j us) := Lib.hid (HR.out.grow (hb3.alloc hb3.size _)); clear ho3 hb3)))
      all_goals go_wp2
      all_goals
        go_roundw
        case rel =>
          have hb4 : Below wr.heap.size wr (w3.alloc (.cells #[.slice Au pl cu] 30)) := HB3.out.alloc HB3.out.size _
          refine ⟨j + 1, _, by omega, by go_num, HO4, Lib.hid ?_, Lib.hid ((HB.out.trans (hb4.mono HB.out.size)).trans (HK4.out.below (by rw [alloc_size]; omega) (fun k hk => (HR3.out.lt k hk).1)))⟩
          rw [HTS.out, HPK1.out]
          refine OwnBs.keep (OwnBs.snoc (HO.out.grow hb4) ((OwnB.more HO3.out hbs).grow ((Below.refl _ _).alloc (Nat.le_refl _) _))) HK4.out (fun g cc hg e => row_apart_blk HR3.out hg (by decide) e)
        case measure => simp [intOf]; omega
    · obtain rfl : N = j := by omega
      go_wp2
      go_ret
      refine ⟨_, rfl, ⟨us, ?_, ?_⟩, HB.out⟩
      · rw [tickL_len, HN.out]; exact HR.out
      · have := HO.out
        rwa [List.take_of_length_le (by rw [tickL_len, HN.out]; exact Nat.le_refl _)] at this
end
end Go.Proofs.Ytchhejheobceiaa
