/- The walk of a session's Recv. No condition. -/
import Derived.Test.YtchhejheobceiaaSes6
namespace Go.Proofs.Ytchhejheobceiaa
open Go.RowKit
set_option linter.unusedVariables false

theorem done_int (Ha f1 wn : Nat) : (if (wn : Int) < (if (Ha : Int) - f1 + 1 < 0 then 0 else (Ha : Int) - f1 + 1) then (wn : Int) else if (Ha : Int) - f1 + 1 < 0 then 0 else (Ha : Int) - f1 + 1) = ((min (Ha + 1 - f1) wn : Nat) : Int) := by
  by_cases h : (Ha : Int) - f1 + 1 < 0
  · simp only [if_pos h]
    rw [if_neg (by omega)]
    omega
  · simp only [if_neg h]
    split <;> omega
theorem acked_ok {s : Se} (hok : s.Ok) (h : Hd) (ha : h.ack ≤ 1099511627776) : (s.acked h).Ok := by
  unfold Se.acked
  split
  · exact hok
  · refine ⟨hok.life, hok.peer, hok.took, ?_, ?_, ?_⟩
    · have h1 := hok.first
      show 1 ≤ s.first + s.done h.ack ∧ s.first + s.done h.ack ≤ 2000000000000
      unfold Se.done
      omega
    · show (s.wait.drop _).length ≤ 200
      rw [List.length_drop]
      have := hok.wait
      omega
    · exact fun m hm => hok.msg m (List.mem_of_mem_drop hm)
theorem take_ok {s : Se} (hok : s.Ok) (h : Hd) (hn : h.num ≤ 1099511627776) : (s.take h).Ok := by
  unfold Se.take
  split
  · rename_i hh
    exact ⟨hok.life, hok.peer, by show s.took + 1 ≤ 2000000000000; omega, hok.first, hok.wait, hok.msg⟩
  · exact hok
theorem numL_far {b : List UInt8} {v : Nat} {r : List UInt8} (h : numL b = some (v, r)) : v ≤ farN := by
  unfold numL at h
  split at h
  · cases h
  · injection h with h; injection h with h1 h2; omega
theorem numsL_far : ∀ (k : Nat) (b : List UInt8) (xs : List Nat) (r : List UInt8), numsL k b = some (xs, r) → ∀ x ∈ xs, x ≤ farN
  | 0, b, xs, r, h, x, hx => by injection h with h; injection h with h _; rw [← h] at hx; cases hx
  | k + 1, b, xs, r, h, x, hx => by
    rw [numsL] at h
    cases hn : numL b with
    | none => rw [hn] at h; cases h
    | some p =>
      obtain ⟨v, r'⟩ := p
      rw [hn] at h
      simp only at h
      cases hm : numsL k r' with
      | none => rw [hm] at h; cases h
      | some q =>
        rw [hm] at h
        injection h with h
        injection h with h1 h2
        subst h1
        rcases List.mem_cons.1 hx with rfl | hx
        · exact numL_far hn
        · exact numsL_far k r' q.1 q.2 hm x hx
theorem parse_far {l : List UInt8} {h : Hd} {m : List UInt8} (hp : parseL l = some (h, m)) : 1 ≤ h.life ∧ h.life ≤ farN ∧ h.peer ≤ farN ∧ h.num ≤ farN ∧ h.ack ≤ farN := by
  unfold parseL at hp
  split at hp
  · cases hp
  cases hn : numsL 4 (nextL l).1 with
  | none => rw [hn] at hp; cases hp
  | some p =>
    obtain ⟨xs, b⟩ := p
    rw [hn] at hp
    simp only at hp
    have hl := numsL_len 4 _ _ _ hn
    have hf := numsL_far 4 _ _ _ hn
    match xs, hl with
    | [x0, x1, x2, x3], _ =>
      cases b with
      | nil => cases hp
      | cons y m' =>
        rw [hdL] at hp
        split at hp
        · cases hp
        · rename_i hb
          injection hp with hp
          injection hp with h1 h2
          subst h1
          simp at hb hf ⊢
          omega
section
variable (w : World) (A : Option Addr) (n c : Nat) (l : List UInt8) (hr : Reads w w.heap.size 1 A n (bc l)) (hnc : n ≤ c) (hc : c ≤ maxLen)
include hr hnc hc
theorem parse_none (hp : parseL l = none) : Calls Try.prog 21 #[.slice A n c] w fun e w' => ∃ (x0 x1 x2 x3 : Nat) (f : Bool), e = .returned (.tuple #[.agg #[.int .i64 x0, .int .i64 x1, .int .i64 x2, .int .i64 x3, .bool f], .slice none 0 0, .bool false]) ∧ Below w.heap.size w w' :=
  (parse_any w A n c l hr hnc hc).mono fun e w' ⟨h1, h2⟩ => by
    rw [hp] at h2
    obtain ⟨x0, x1, x2, x3, f, h2⟩ := h2
    exact ⟨x0, x1, x2, x3, f, h2, h1⟩
theorem parse_some {h : Hd} {m : List UInt8} (hp : parseL l = some (h, m)) : Calls Try.prog 21 #[.slice A n c] w fun e w' => ∃ A' c', e = .returned (.tuple #[.agg #[.int .i64 h.life, .int .i64 h.peer, .int .i64 h.num, .int .i64 h.ack, .bool h.has], .slice A' m.length c', .bool true]) ∧ OwnB w' w.heap.size (.slice A' m.length c') m ∧ Below w.heap.size w w' :=
  (parse_any w A n c l hr hnc hc).mono fun e w' ⟨h1, h2⟩ => by
    rw [hp] at h2
    obtain ⟨u, h2, h3⟩ := h2
    obtain ⟨A', c', rfl, _⟩ := Row.form h3
    exact ⟨A', c', h2, h3, h1⟩
end
section
variable (B : Nat) (w : World) (a : Nat) (v : Value) (vs : List Value) (s : Se) (h : SesAt B w a v vs s) (hok : s.Ok) (A : Option Addr) (n c : Nat) (l : List UInt8) (hr : Reads w w.heap.size 1 A n (bc l)) (hnc : n ≤ c) (hc : c ≤ maxLen)
include h hok hr hnc hc
set_option maxRecDepth 100000 in
set_option maxHeartbeats 4000000 in
theorem recv_none (hp : parseL l = none) : Calls Try.prog 9 #[.pointer (some ⟨a, 0, none⟩), .slice A n c] w (RetRecv B w a v (recvL s l)) := by
  obtain ⟨c0, _, _, _, _⟩ := h.cells_
  have HG := Lib.hid (gone_no w a s.life hok.life.1 c0)
  have HPA := Lib.hid (parse_none w A n c l hr hnc hc hp)
  have HS := Lib.hid h
  have HE : Hid (recvL s l = (s, [], [], 10)) := Lib.hid (by unfold recvL; rw [hp])
  rw [HE.out]
  clear h hok hr hp
  go_enter Try.func9, Try.ntmps9
  go_wp2_with (first
    | (go_at_call 18; ((with_reducible refine HG.out.mono ?_); rintro e w' ⟨rfl, rfl⟩))
    | (go_at_call 21; ((with_reducible refine HPA.out.mono ?_); rintro e w2 ⟨x0, x1, x2, x3, f, rfl, hb2⟩)))
  go_ret3
  have hb := hb2.alloc hb2.size (.cells #[.int .i64 x0, .int .i64 x1, .int .i64 x2, .int .i64 x3, .bool f] 51)
  exact ⟨_, _, rfl, rows_nil _ _, rows_nil _ _, v, vs, HS.out.grow hb, Kept.of_below hb, fun g hg => hg⟩

set_option maxRecDepth 100000 in
set_option maxHeartbeats 8000000 in
theorem recv_some (hB : B ≤ w.heap.size) {H : Hd} {m : List UInt8} (hp : parseL l = some (H, m)) : Calls Try.prog 9 #[.pointer (some ⟨a, 0, none⟩), .slice A n c] w (RetRecv B w a v (recvL s l)) := by
  obtain ⟨c0, _, _, _, _⟩ := h.cells_
  have HG := Lib.hid (gone_no w a s.life hok.life.1 c0)
  have HPA := Lib.hid (parse_some w A n c l hr hnc hc hp)
  have HS := Lib.hid h
  have HOK := Lib.hid hok
  have HFAR := Lib.hid (parse_far hp)
  have HREC : Hid (recvL s l = if H.life < s.peer then (s, [], [], 0)
    else if H.peer ≠ 0 ∧ H.peer ≠ s.life then (s.meet H.life, [], s.meetOut H.life, 0)
    else if H.has = false then ((s.meet H.life).acked H, [], s.meetOut H.life, 0)
    else ((((s.meet H.life).acked H).take H), (if H.num = ((s.meet H.life).acked H).took + 1 then [m] else []), s.meetOut H.life ++ [pktL (((s.meet H.life).acked H).take H) 0 false []], 0)) := Lib.hid (by unfold recvL; rw [hp])
  obtain ⟨ml, HML⟩ : ∃ ml, Hid (m.length = ml) := ⟨_, Lib.hid rfl⟩
  simp only [HML.out] at HPA
  have hal := h.lt
  obtain ⟨Hl, Hp, Hn, Ha, Hf⟩ := H
  simp only at HPA HFAR HREC
  clear h hok hr hp c0
  go_enter Try.func9, Try.ntmps9
  go_upto_region 6 with (first
    | (go_at_call 18; ((with_reducible refine HG.out.mono ?_); rintro e w' ⟨rfl, rfl⟩))
    | (go_at_call 21; ((with_reducible refine HPA.out.mono ?_); rintro e w2 ⟨Am, cm, rfl, hom, hb2⟩)))
  have hs2 := hb2.size
  have HW3 : Hid (SesAt B (w2.alloc (.cells #[.int .i64 Hl, .int .i64 Hp, .int .i64 Hn, .int .i64 Ha, .bool Hf] 51)) a v vs s ∧ Below w.heap.size w (w2.alloc (.cells #[.int .i64 Hl, .int .i64 Hp, .int .i64 Hn, .int .i64 Ha, .bool Hf] 51)) ∧ (w2.alloc (.cells #[.int .i64 Hl, .int .i64 Hp, .int .i64 Hn, .int .i64 Ha, .bool Hf] 51)).rangeAt w2.heap.size 0 (hdCells Hl Hp Hn Ha Hf) ∧ w2.heap.size < (w2.alloc (.cells #[.int .i64 Hl, .int .i64 Hp, .int .i64 Hn, .int .i64 Ha, .bool Hf] 51)).heap.size ∧ OwnB (w2.alloc (.cells #[.int .i64 Hl, .int .i64 Hp, .int .i64 Hn, .int .i64 Ha, .bool Hf] 51)) w.heap.size (.slice Am ml cm) m) := Lib.hid
    ⟨HS.out.grow (hb2.alloc hs2 _), hb2.alloc hs2 _, range_new w2 (hdCells Hl Hp Hn Ha Hf) _, by rw [alloc_size]; omega, hom.grow ((Below.refl _ _).alloc (Nat.le_refl _) _)⟩
  clear hom hb2 HPA HG
  generalize (w2.alloc (.cells #[.int .i64 Hl, .int .i64 Hp, .int .i64 Hn, .int .i64 Ha, .bool Hf] 51)) = W3 at *
  generalize w2.heap.size = b7 at *
  obtain ⟨d0, d1, d2, d3, d4⟩ := HW3.out.1.cells_
  obtain ⟨sl, sp, st, sf, sw⟩ := s
  simp only at d0 d1 d2 d3 HREC
  have z0 : W3.cell? ⟨b7, 0, none⟩ = some (.int .i64 Hl) := HW3.out.2.2.1 0 _ rfl
  have z1 : W3.cell? ⟨b7, 1, none⟩ = some (.int .i64 Hp) := HW3.out.2.2.1 1 _ rfl
  have hb7 : w.heap.size ≤ b7 := hs2
  by_cases hlt : Hl < sp
  · go_quiet (fail)
    go_wp2
    go_ret3
    rw [HREC.out, if_pos hlt]
    have hb := below_drewN (Below.refl W3.heap.size W3) nq
    have hb3 := below_drewN HW3.out.2.1 nq
    exact ⟨_, _, rfl, rows_nil _ _, rows_nil _ _, v, vs, HW3.out.1.grow hb, Kept.of_below hb3, fun g hg => hg⟩
  have hlt' : decide (Hl < sp) = false := by simp; omega
  have HR2 : Hid (recvL ⟨sl, sp, st, sf, sw⟩ l = if Hp ≠ 0 ∧ Hp ≠ sl then (Se.meet ⟨sl, sp, st, sf, sw⟩ Hl, [], Se.meetOut ⟨sl, sp, st, sf, sw⟩ Hl, 0)
    else if Hf = false then ((Se.meet ⟨sl, sp, st, sf, sw⟩ Hl).acked ⟨Hl, Hp, Hn, Ha, Hf⟩, [], Se.meetOut ⟨sl, sp, st, sf, sw⟩ Hl, 0)
    else ((((Se.meet ⟨sl, sp, st, sf, sw⟩ Hl).acked ⟨Hl, Hp, Hn, Ha, Hf⟩).take ⟨Hl, Hp, Hn, Ha, Hf⟩), (if Hn = ((Se.meet ⟨sl, sp, st, sf, sw⟩ Hl).acked ⟨Hl, Hp, Hn, Ha, Hf⟩).took + 1 then [m] else []), Se.meetOut ⟨sl, sp, st, sf, sw⟩ Hl ++ [pktL (((Se.meet ⟨sl, sp, st, sf, sw⟩ Hl).acked ⟨Hl, Hp, Hn, Ha, Hf⟩).take ⟨Hl, Hp, Hn, Ha, Hf⟩) 0 false []], 0)) := Lib.hid (by rw [HREC.out, if_neg hlt])
  clear HREC
  rw [HR2.out]
  go_quiet (fail)
  obtain ⟨nq1, hnq1⟩ : ∃ k, k = nq := ⟨_, rfl⟩
  rw [← hnq1]
  clear hnq1
  go_upto_region 8 with fail
  go_quiet (fail)
  obtain ⟨W4, hW4⟩ : ∃ W4, (W3.drewN nq1).drewN nq = W4 := ⟨_, rfl⟩
  rw [hW4]
  have hb34 : Below W3.heap.size W3 W4 := by rw [← hW4]; exact below_drewN (below_drewN (Below.refl _ _) _) _
  have HW4 : Hid (SesAt B W4 a v vs ⟨sl, sp, st, sf, sw⟩ ∧ Below w.heap.size w W4 ∧ W4.rangeAt b7 0 (hdCells Hl Hp Hn Ha Hf) ∧ b7 < W4.heap.size ∧ OwnB W4 w.heap.size (.slice Am ml cm) m) := Lib.hid
    ⟨HW3.out.1.grow hb34, HW3.out.2.1.trans (hb34.mono HW3.out.2.1.size), range_below_at HW3.out.2.2.1 hb34 HW3.out.2.2.2.1, Nat.lt_of_lt_of_le HW3.out.2.2.2.1 hb34.size, HW3.out.2.2.2.2.grow hb34⟩
  clear hb34 hW4 HW3 z0 z1 d0 d1 d2 d3 d4
  obtain ⟨d0, d1, d2, d3, d4⟩ := HW4.out.1.cells_
  have f1 := HW4.out.1.free 1
  have f2 := HW4.out.1.free 2
  have f3 := HW4.out.1.free 3
  have z0 : W4.cell? ⟨b7, 0, none⟩ = some (.int .i64 Hl) := HW4.out.2.2.1 0 _ rfl
  have hab : ¬ a = b7 := by omega
  have hba : ¬ b7 = a := by omega
  go_upto_if 34 with fail
  go_cut [5] from 21 (fun s5 wx => Hid (RowsAt wx w.heap.size s5 (Se.meetOut ⟨sl, sp, st, sf, sw⟩ Hl)) ∧ Hid (SesAt B wx a v vs (Se.meet ⟨sl, sp, st, sf, sw⟩ Hl)) ∧ Hid (Kept (foot a v) w wx) ∧ Hid (wx.rangeAt b7 0 (hdCells Hl Hp Hn Ha Hf)) ∧ b7 < wx.heap.size ∧ Hid (OwnB wx w.heap.size (.slice Am ml cm) m))
  case first =>
    by_cases hmt : sp < Hl
    · go_upto_region 10 with fail
      have hm1 : Se.meet ⟨sl, sp, st, sf, sw⟩ Hl = ⟨sl, Hl, 0, 1, sw⟩ := by unfold Se.meet; rw [if_pos hmt]
      have hm2 : Se.meetOut ⟨sl, sp, st, sf, sw⟩ Hl = tickL ⟨sl, Hl, 0, 1, sw⟩ := by unfold Se.meetOut; rw [if_pos hmt]
      have hok1 : (⟨sl, Hl, 0, 1, sw⟩ : Se).Ok := by have := meet_ok HOK.out (l := Hl) (by have := HFAR.out.2.1; unfold farN at this; exact this); rwa [hm1] at this
      have HM12 := Lib.hid (And.intro hm1 (And.intro hm2 hok1))
      have HW5 : Hid (SesAt B (((W4.setCell ⟨a, 1, none⟩ (.int .i64 Hl)).setCell ⟨a, 2, none⟩ (.int .i64 0)).setCell ⟨a, 3, none⟩ (.int .i64 1)) a v vs ⟨sl, Hl, 0, 1, sw⟩ ∧ Kept (foot a v) w (((W4.setCell ⟨a, 1, none⟩ (.int .i64 Hl)).setCell ⟨a, 2, none⟩ (.int .i64 0)).setCell ⟨a, 3, none⟩ (.int .i64 1)) ∧ (((W4.setCell ⟨a, 1, none⟩ (.int .i64 Hl)).setCell ⟨a, 2, none⟩ (.int .i64 0)).setCell ⟨a, 3, none⟩ (.int .i64 1)).rangeAt b7 0 (hdCells Hl Hp Hn Ha Hf) ∧ OwnB (((W4.setCell ⟨a, 1, none⟩ (.int .i64 Hl)).setCell ⟨a, 2, none⟩ (.int .i64 0)).setCell ⟨a, 3, none⟩ (.int .i64 1)) w.heap.size (.slice Am ml cm) m ∧ W4.heap.size = (((W4.setCell ⟨a, 1, none⟩ (.int .i64 Hl)).setCell ⟨a, 2, none⟩ (.int .i64 0)).setCell ⟨a, 3, none⟩ (.int .i64 1)).heap.size) := Lib.hid (by
        have ho : ∀ (W : World) (j : Nat) (u : Value), OwnB W w.heap.size (.slice Am ml cm) m → OwnB (W.setCell ⟨a, j, none⟩ u) w.heap.size (.slice Am ml cm) m := fun W j u hh => Row.setCell_other hh (fun e => by have := (hh.lt a e).1; omega) u
        exact ⟨((HW4.out.1.set1 Hl).set2 0).set3 1, (((Kept.of_below HW4.out.2.1 : Kept (foot a v) w W4).setCell (a := ⟨a, 1, none⟩) (fun _ => .inl rfl) _).setCell (a := ⟨a, 2, none⟩) (fun _ => .inl rfl) _).setCell (a := ⟨a, 3, none⟩) (fun _ => .inl rfl) _, range_setCell_other (range_setCell_other (range_setCell_other HW4.out.2.2.1 hab _) hab _) hab _, ho _ _ _ (ho _ _ _ (ho _ _ _ HW4.out.2.2.2.2)), by simp only [World.size_setCell]⟩)
      have hb75 : b7 < W4.heap.size := HW4.out.2.2.2.1
      clear HW4 hm1 hm2 hok1 d0 d1 d2 d3 d4 f1 f2 f3 z0
      generalize (((W4.setCell ⟨a, 1, none⟩ (.int .i64 Hl)).setCell ⟨a, 2, none⟩ (.int .i64 0)).setCell ⟨a, 3, none⟩ (.int .i64 1)) = W5 at *
      have HALL := Lib.hid (all_any B W5 a v vs _ HW5.out.1 HM12.out.2.2)
      go_wp2_with (go_at_call 22; ((with_reducible refine HALL.out.mono ?_); rintro e w6 ⟨u6, rfl, hr6, hb6⟩; obtain ⟨A6, c6, rfl⟩ := hr6.value))
      go_meet
      have hs5 : b7 < W5.heap.size := by have := HW5.out.2.2.2.2; omega
      refine ⟨Lib.hid ?_, Lib.hid ?_, Lib.hid (HW5.out.2.1.trans (Kept.of_below hb6 : Kept (fun _ => False) _ _) (fun _ _ e => e.elim)), Lib.hid (range_below_at HW5.out.2.2.1 hb6 hs5), Nat.lt_of_lt_of_le hs5 hb6.size, Lib.hid (HW5.out.2.2.2.1.grow hb6)⟩
      · rw [HM12.out.2.1]; exact hr6.more HW5.out.2.1.size
      · rw [HM12.out.1]; exact HW5.out.1.grow hb6
    · go_wp2_with fail
      go_meet
      refine ⟨Lib.hid ?_, Lib.hid ?_, Lib.hid (Kept.of_below HW4.out.2.1), Lib.hid HW4.out.2.2.1, HW4.out.2.2.2.1, Lib.hid HW4.out.2.2.2.2⟩
      · unfold Se.meetOut; rw [if_neg hmt]; exact rows_nil _ _
      · unfold Se.meet; rw [if_neg hmt]; exact HW4.out.1
  case rest =>
    obtain ⟨HOUT, HS1, HK1, HRG, hb7c, HOM⟩ := hcut
    have HOK1 := Lib.hid (meet_ok HOK.out (l := Hl) (by have := HFAR.out.2.1; unfold farN at this; exact this))
    have HL1 : Hid ((Se.meet ⟨sl, sp, st, sf, sw⟩ Hl).life = sl) := Lib.hid (by unfold Se.meet; split <;> rfl)
    have HOSL : Hid ((Se.meetOut ⟨sl, sp, st, sf, sw⟩ Hl).length ≤ 200) := Lib.hid (by
      unfold Se.meetOut
      split
      · rw [tickL_len]; exact HOK.out.wait
      · exact Nat.zero_le _)
    clear HW4 d0 d1 d2 d3 d4 f1 f2 f3 z0
    generalize Se.meet ⟨sl, sp, st, sf, sw⟩ Hl = s1 at *
    generalize Se.meetOut ⟨sl, sp, st, sf, sw⟩ Hl = os at *
    obtain ⟨l1, p1, t1, f1, w1⟩ := s1
    have hl1 : l1 = sl := HL1.out
    subst hl1
    obtain ⟨Ao, co, rfl⟩ := HOUT.out.value
    obtain ⟨on, HON⟩ : ∃ on, Hid (os.length = on) := ⟨_, Lib.hid rfl⟩
    rw [HON.out] at HOUT
    simp only [HON.out]
    obtain ⟨e0, e1, e2, e3, e4⟩ := HS1.out.cells_
    simp only at e0 e1 e2 e3
    have y1 : wc.cell? ⟨b7, 1, none⟩ = some (.int .i64 Hp) := HRG.out 1 _ rfl
    by_cases hbad : Hp ≠ 0 ∧ Hp ≠ l1
    · have k1 : ((Hp : Int) != 0) = true := by simp; omega
      have k2 : ((Hp : Int) != (l1 : Int)) = true := by simp; omega
      go_upto_region 11 with fail
      refine wp_region_quiet_lit (by kernel_rfl) (by kernel_rfl) ?_
      repeat (go_big_quiet_step (fail))
      refine wpQuiet_nil ?_
      rintro _ ⟨nq3, rfl⟩
      go_wp2
      go_ret3
      rw [HR2.out, if_pos hbad]
      have hb := below_drewN (Below.refl wc.heap.size wc) nq3
      exact ⟨_, _, rfl, rows_nil _ _, by have := HOUT.out.grow hb; exact this, v, vs, HS1.out.grow hb, HK1.out.trans (Kept.of_below hb : Kept (fun _ => False) _ _) (fun _ _ e => e.elim), fun g hg => hg⟩
    have hgood : Hp = 0 ∨ Hp = l1 := by omega
    obtain ⟨Wa, rfl⟩ : ∃ W, W = wc := ⟨wc, rfl⟩
    go_upto_region 11 with fail
    go_cut [59] from 21 (fun s59 wx => s59 = .bool false ∧ ∃ k, wx = Wa.drewN k)
    case first =>
      by_cases hp0 : Hp = 0
      · have k1 : ((Hp : Int) != 0) = false := by simp [hp0]
        clear hp0 hgood hbad
        refine wp_region_quiet_lit (by kernel_rfl) (by kernel_rfl) ?_
        repeat (go_big_quiet_step (fail))
        refine wpQuiet_nil ?_
        rintro _ ⟨nq3, rfl⟩
        go_wp2_with fail
        go_meet
        exact ⟨rfl, _, rfl⟩
      · have k1 : ((Hp : Int) != 0) = true := by simp; omega
        have k2 : ((Hp : Int) != (l1 : Int)) = false := by simp; omega
        refine wp_region_quiet_lit (by kernel_rfl) (by kernel_rfl) ?_
        repeat (go_big_quiet_step (fail))
        refine wpQuiet_nil ?_
        rintro _ ⟨nq3, rfl⟩
        go_wp2_with fail
        go_meet
        exact ⟨rfl, _, rfl⟩
    case rest =>
      obtain ⟨rfl, k, hk⟩ := hcut
      have hbk : Below Wa.heap.size Wa wc := by rw [hk]; exact below_drewN (Below.refl _ _) _
      have HW6 : Hid (SesAt B wc a v vs ⟨l1, p1, t1, f1, w1⟩ ∧ Kept (foot a v) w wc ∧ wc.rangeAt b7 0 (hdCells Hl Hp Hn Ha Hf) ∧ b7 < wc.heap.size ∧ OwnB wc w.heap.size (.slice Am ml cm) m ∧ RowsAt wc w.heap.size (.slice Ao on co) os) := Lib.hid
        ⟨HS1.out.grow hbk, HK1.out.trans (Kept.of_below hbk : Kept (fun _ => False) _ _) (fun _ _ e => e.elim), range_below_at HRG.out hbk hb7c, Nat.lt_of_lt_of_le hb7c hbk.size, HOM.out.grow hbk, by have := HOUT.out.grow hbk; exact this⟩
      clear hbk hk HS1 HK1 HRG HOM HOUT e0 e1 e2 e3 e4 y1 hb7c
      obtain ⟨e0, e1, e2, e3, e4⟩ := HW6.out.1.cells_
      simp only at e0 e1 e2 e3
      obtain ⟨Av, cv, rfl, hwc, hcv, _⟩ := HW6.out.1.row.form
      simp only at hwc
      obtain ⟨wn, HWN⟩ : ∃ wn, Hid (w1.length = wn) := ⟨_, Lib.hid rfl⟩
      simp only [HWN.out] at e4 hwc
      have y1 : wc.cell? ⟨b7, 1, none⟩ = some (.int .i64 Hp) := HW6.out.2.2.1 1 _ rfl
      have y3 : wc.cell? ⟨b7, 3, none⟩ = some (.int .i64 Ha) := HW6.out.2.2.1 3 _ rfl
      have g3 := HW6.out.1.free 3
      have g4 := HW6.out.1.free 4
      have hwn : wn ≤ 200 := by have := HOK1.out.wait; simp only [HWN.out] at this; exact this
      have hf1 : f1 ≤ 2000000000000 ∧ 1 ≤ f1 := ⟨HOK1.out.first.2, HOK1.out.first.1⟩
      obtain ⟨hf1a, hf1b⟩ := hf1
      have hHa : Ha ≤ 1099511627776 := HFAR.out.2.2.2.2
      go_upto_if 63 with fail
      go_cut [] from 21 (fun wx => ∃ (v' : Value) (vs' : List Value), Hid (SesAt B wx a v' vs' (Se.acked ⟨l1, p1, t1, f1, w1⟩ ⟨Hl, Hp, Hn, Ha, Hf⟩)) ∧ Hid (Kept (foot a (.slice Av w1.length cv)) w wx) ∧ Hid (∀ g, v'.ownBlock = some g → (Value.slice Av w1.length cv).ownBlock = some g) ∧ Hid (RowsAt wx w.heap.size (.slice Ao on co) os) ∧ Hid (wx.rangeAt b7 0 (hdCells Hl Hp Hn Ha Hf)) ∧ b7 < wx.heap.size ∧ Hid (OwnB wx w.heap.size (.slice Am ml cm) m))
      case first =>
        by_cases hp0 : Hp = 0
        · have k1 : ((Hp : Int) != 0) = false := by simp [hp0]
          have HP0 := Lib.hid hp0
          clear hp0 hgood hbad
          go_wp2_with fail
          go_meet
          exact ⟨_, _, Lib.hid (by unfold Se.acked; rw [if_pos HP0.out]; exact HW6.out.1), Lib.hid HW6.out.2.1, Lib.hid (fun g hg => hg), Lib.hid HW6.out.2.2.2.2.2, Lib.hid HW6.out.2.2.1, HW6.out.2.2.2.1, Lib.hid HW6.out.2.2.2.2.1⟩
        · have k1 : ((Hp : Int) != 0) = true := by simp; omega
          have q1 : IntKind.i64.wrap ((Ha : Int) - (f1 : Int)) = (Ha : Int) - (f1 : Int) := IntWalk.i64_in _ (by omega)
          have q2 : IntKind.i64.wrap ((Ha : Int) - (f1 : Int) + 1) = (Ha : Int) - (f1 : Int) + 1 := IntWalk.i64_in _ (by omega)
          have HP0 := Lib.hid hp0
          clear hp0 hgood hbad
          obtain ⟨dn, HDN⟩ : ∃ dn, Hid (min (Ha + 1 - f1) wn = dn) := ⟨_, Lib.hid rfl⟩
          have hdn : dn ≤ wn := by rw [← HDN.out]; exact Nat.min_le_right _ _
          obtain ⟨Wb, rfl⟩ : ∃ W, W = wc := ⟨wc, rfl⟩
          go_upto_region 14 with fail
          go_cut [10] from 21 (fun s10 wx => s10 = .int .i64 dn ∧ wx = Wb.drew)
          case first =>
            go_region
            go_wp2_with fail
            all_goals go_meet
            all_goals
              rename_i hcond
              refine ⟨congrArg (Value.int .i64) ?_, rfl⟩
              have hd := done_int Ha f1 wn
              rw [HDN.out] at hd
              first
                | (rw [if_pos hcond] at hd; exact hd)
                | (have hm := HDN.out; omega)
                | (rename_i ho; rw [if_neg (Int.not_lt.2 hcond)] at ho; have hm := HDN.out; omega)
          case rest =>
            obtain ⟨rfl, hwd⟩ := hcut
            have HACK : Hid (Se.acked ⟨l1, p1, t1, f1, w1⟩ ⟨Hl, Hp, Hn, Ha, Hf⟩ = ⟨l1, p1, t1, f1 + dn, w1.drop dn⟩) := Lib.hid (by
              unfold Se.acked Se.drop Se.done
              rw [if_neg HP0.out]
              simp only [HWN.out, HDN.out])
            have q3 : IntKind.i64.wrap ((f1 : Int) + (dn : Int)) = (f1 : Int) + (dn : Int) := IntWalk.i64_in _ (by omega)
            have HFIN : Hid (∀ u, u = .slice (if cv = dn then Av else Av.map (·.add dn)) (wn - dn) (cv - dn) → ∃ vs', SesAt B ((Wb.setCell ⟨a, 4, none⟩ u).setCell ⟨a, 3, none⟩ (.int .i64 ((f1 + dn : Nat) : Int))) a u vs' ⟨l1, p1, t1, f1 + dn, w1.drop dn⟩ ∧ Kept (foot a (.slice Av w1.length cv)) w ((Wb.setCell ⟨a, 4, none⟩ u).setCell ⟨a, 3, none⟩ (.int .i64 ((f1 + dn : Nat) : Int))) ∧ (∀ g, u.ownBlock = some g → (Value.slice Av w1.length cv).ownBlock = some g) ∧ RowsAt ((Wb.setCell ⟨a, 4, none⟩ u).setCell ⟨a, 3, none⟩ (.int .i64 ((f1 + dn : Nat) : Int))) w.heap.size (.slice Ao on co) os ∧ ((Wb.setCell ⟨a, 4, none⟩ u).setCell ⟨a, 3, none⟩ (.int .i64 ((f1 + dn : Nat) : Int))).rangeAt b7 0 (hdCells Hl Hp Hn Ha Hf) ∧ b7 < ((Wb.setCell ⟨a, 4, none⟩ u).setCell ⟨a, 3, none⟩ (.int .i64 ((f1 + dn : Nat) : Int))).heap.size ∧ OwnB ((Wb.setCell ⟨a, 4, none⟩ u).setCell ⟨a, 3, none⟩ (.int .i64 ((f1 + dn : Nat) : Int))) w.heap.size (.slice Am ml cm) m) := Lib.hid (by
              intro u hu
              have ho : ∀ (W : World) (j : Nat) (u : Value), OwnB W w.heap.size (.slice Am ml cm) m → OwnB (W.setCell ⟨a, j, none⟩ u) w.heap.size (.slice Am ml cm) m := fun W j u hh => Row.setCell_other hh (fun e => by have := (hh.lt a e).1; omega) u
              have hro : ∀ (W : World) (j : Nat) (u : Value), RowsAt W w.heap.size (.slice Ao on co) os → RowsAt (W.setCell ⟨a, j, none⟩ u) w.heap.size (.slice Ao on co) os := fun W j u hh => hh.keep (S := fun k => k = a) ((Kept.refl (fun k => k = a) W).setCell (a := ⟨a, j, none⟩) (fun _ => rfl) u) (fun k h1 h2 e => by omega)
              refine ⟨_, (HW6.out.1.set4 (n := dn) (by simp only [HWN.out]; exact hdn) u (by rw [hu]; simp only [HWN.out])).set3 (f1 + dn), (HW6.out.2.1.setCell (a := ⟨a, 4, none⟩) (fun _ => .inl rfl) _).setCell (a := ⟨a, 3, none⟩) (fun _ => .inl rfl) _, fun g hg => ?_, hro _ _ _ (hro _ _ _ HW6.out.2.2.2.2.2), range_setCell_other (range_setCell_other HW6.out.2.2.1 hab _) hab _, by simp only [World.size_setCell]; exact HW6.out.2.2.2.1, ho _ _ _ (ho _ _ _ HW6.out.2.2.2.2.1)⟩
              rw [hu] at hg
              cases Av with
              | none => split at hg <;> cases hg
              | some ad =>
                split at hg
                · exact hg
                · rw [Option.map_some] at hg
                  injection hg with hg
                  rw [← hg, block_of_add]
                  rfl)
            rw [hwd]
            clear hwd
            have hcvd : cv = dn ∨ ¬ cv = dn := Decidable.em _
            have hdn' : (dn : Int) ≤ (wn : Int) := by omega
            have hwc' : (wn : Int) ≤ (cv : Int) := by omega
            cases Av with
            | none =>
              have hz : wn = 0 ∧ cv = 0 := by
                obtain ⟨h1, ⟨h2, h3⟩ | ⟨g, off, cap, cur, h2, _⟩⟩ := HW6.out.1.row
                · injection h2 with _ h4 h5
                  simp only at h4
                  exact ⟨by rw [← HWN.out]; exact h4, h5⟩
                · injection h2 with h2; cases h2
              obtain ⟨rfl, rfl⟩ := hz
              obtain rfl : dn = 0 := by omega
              have HF := Lib.hid (HFIN.out (.slice none 0 0) rfl)
              clear HFIN
              go_upto_region 15 with fail
              go_region
              go_wp2_with fail
              go_meet
              obtain ⟨vs', P1, P2, P3, P4, P5, P6, P7⟩ := HF.out
              rw [HACK.out]
              exact ⟨_, vs', Lib.hid (P1.grow ((Below.refl _ _).drew.drew)), Lib.hid P2.drew.drew, Lib.hid P3, Lib.hid (P4.grow ((Below.refl _ _).drew.drew)), Lib.hid P5, P6, Lib.hid (P7.grow ((Below.refl _ _).drew.drew))⟩
            | some ad =>
              obtain ⟨g, off, hg, hadf⟩ : ∃ g off, (⟨g, off, none⟩ : Addr) = ad ∧ True := by
                obtain ⟨h1, ⟨h2, _⟩ | ⟨g, off, cap, cur, h2, _⟩⟩ := HW6.out.1.row
                · cases h2
                · injection h2 with h2; injection h2 with h2; exact ⟨g, off, h2.symm, trivial⟩
              subst hg
              rcases hcvd with hcd | hcd
              · subst hcd
                obtain rfl : wn = cv := by omega
                have HF := Lib.hid (HFIN.out (.slice (some ⟨g, off, none⟩) 0 0) (by rw [if_pos rfl, Nat.sub_self]))
                clear HFIN hadf
                go_upto_region 15 with fail
                go_region
                go_wp2_with fail
                go_meet
                obtain ⟨vs', P1, P2, P3, P4, P5, P6, P7⟩ := HF.out
                rw [HACK.out]
                exact ⟨_, vs', Lib.hid (P1.grow ((Below.refl _ _).drew.drew)), Lib.hid P2.drew.drew, Lib.hid P3, Lib.hid (P4.grow ((Below.refl _ _).drew.drew)), Lib.hid P5, P6, Lib.hid (P7.grow ((Below.refl _ _).drew.drew))⟩
              · have HF := Lib.hid (HFIN.out (.slice (some ⟨g, off + dn, none⟩) (wn - dn) (cv - dn)) (by rw [if_neg hcd, Option.map_some, Addr.add_mid]))
                clear HFIN hadf
                go_upto_region 15 with fail
                go_region
                go_wp2_with fail
                go_meet
                obtain ⟨vs', P1, P2, P3, P4, P5, P6, P7⟩ := HF.out
                rw [HACK.out]
                exact ⟨_, vs', Lib.hid (P1.grow ((Below.refl _ _).drew.drew)), Lib.hid P2.drew.drew, Lib.hid P3, Lib.hid (P4.grow ((Below.refl _ _).drew.drew)), Lib.hid P5, P6, Lib.hid (P7.grow ((Below.refl _ _).drew.drew))⟩
      case rest =>
        obtain ⟨v2, vs2, HS2, HK2, HV2, HOUT2, HRG2, hb72, HOM2⟩ := hcut
        have HVL : Hid (∀ g, (Value.slice Av w1.length cv).ownBlock = some g → g < w.heap.size) := Lib.hid (fun g hg => (HS.out.row.lt g hg).2)
        have HOK2 := Lib.hid (acked_ok HOK1.out ⟨Hl, Hp, Hn, Ha, Hf⟩ hHa)
        have HL2 : Hid ((Se.acked ⟨l1, p1, t1, f1, w1⟩ ⟨Hl, Hp, Hn, Ha, Hf⟩).life = l1) := Lib.hid (by unfold Se.acked; split <;> rfl)
        rw [if_neg hbad] at HR2
        clear HW6 e0 e1 e2 e3 e4 y1 y3 g3 g4
        generalize Se.acked ⟨l1, p1, t1, f1, w1⟩ ⟨Hl, Hp, Hn, Ha, Hf⟩ = s2 at *
        obtain ⟨_, _, e2, _, _⟩ := HS2.out.cells_
        have g2 := HS2.out.free 2
        obtain ⟨t2, HT2⟩ : ∃ t2, Hid (s2.took = t2) := ⟨_, Lib.hid rfl⟩
        rw [HT2.out] at e2
        have ht2 : t2 ≤ 2000000000000 := by rw [← HT2.out]; exact HOK2.out.took
        have y4 : wc.cell? ⟨b7, 4, none⟩ = some (.bool Hf) := HRG2.out 4 _ rfl
        have y2 : wc.cell? ⟨b7, 2, none⟩ = some (.int .i64 Hn) := HRG2.out 2 _ rfl
        clear hbad hgood
        have HGR : Hid (∀ g, v2.ownBlock = some g → (Value.slice Av w1.length cv).ownBlock = some g) := HV2
        cases Hf with
        | false =>
          go_wp2
          go_ret3
          rw [HR2.out, if_pos trivial]
          exact ⟨_, _, rfl, rows_nil _ _, HOUT2.out, v2, vs2, HS2.out, HK2.out, HGR.out⟩
        | true =>
          have q5 : IntKind.i64.wrap ((t2 : Int) + 1) = (t2 : Int) + 1 := IntWalk.i64_in _ (by omega)
          have HR3 : Hid (recvL ⟨l1, sp, st, sf, sw⟩ l = (s2.take ⟨Hl, Hp, Hn, Ha, true⟩, (if Hn = t2 + 1 then [m] else []), os ++ [pktL (s2.take ⟨Hl, Hp, Hn, Ha, true⟩) 0 false []], 0)) := Lib.hid (by rw [HR2.out, if_neg (by simp), HT2.out])
          clear HR2
          obtain ⟨Wd, rfl⟩ : ∃ W, W = wc := ⟨wc, rfl⟩
          go_upto_region 18 with fail
          go_quiet (fail)
          have hbq := below_drewN (Below.refl Wd.heap.size Wd) nq
          have HW8 : Hid (SesAt B (Wd.drewN nq) a v2 vs2 s2 ∧ Kept (foot a (.slice Av w1.length cv)) w (Wd.drewN nq) ∧ RowsAt (Wd.drewN nq) w.heap.size (.slice Ao on co) os ∧ OwnB (Wd.drewN nq) w.heap.size (.slice Am ml cm) m) := Lib.hid
            ⟨HS2.out.grow hbq, HK2.out.drewN _, HOUT2.out.grow hbq, HOM2.out.grow hbq⟩
          clear HS2 HK2 HOUT2 HOM2 HRG2 y4 y2 hb72 hbq
          obtain ⟨W8, hW8⟩ : ∃ W8, Wd.drewN nq = W8 := ⟨_, rfl⟩
          rw [hW8] at HW8 ⊢
          have e2' : W8.cell? ⟨a, 2, none⟩ = some (.int .i64 t2) := by rw [← hW8]; exact e2
          have g2' : W8.frozen? ⟨a, 2, none⟩ = false := by rw [← hW8]; exact g2
          clear e2 g2 hW8
          go_upto_if 108 with fail
          go_cut [4] from 21 (fun s4 wx => Hid (RowsAt wx w.heap.size s4 (if Hn = t2 + 1 then [m] else [])) ∧ Hid (SesAt B wx a v2 vs2 (s2.take ⟨Hl, Hp, Hn, Ha, true⟩)) ∧ Hid (Kept (foot a (.slice Av w1.length cv)) w wx) ∧ Hid (RowsAt wx w.heap.size (.slice Ao on co) os) ∧ Hid (∀ g, s4.ownBlock = some g → (Value.slice Ao on co).ownBlock ≠ some g))
          case first =>
            by_cases hnt : Hn = t2 + 1
            · have k1 : ((Hn : Int) == (t2 : Int) + 1) = true := by simp; omega
              have HNT := Lib.hid hnt
              clear hnt
              go_wp2_with fail
              go_meet
              have ho : OwnB (W8.setCell ⟨a, 2, none⟩ (.int .i64 ((t2 : Int) + 1))) w.heap.size (.slice Am ml cm) m := Row.setCell_other HW8.out.2.2.2 (fun e => by have := (HW8.out.2.2.2.lt a e).1; omega) _
              have hro : RowsAt (W8.setCell ⟨a, 2, none⟩ (.int .i64 ((t2 : Int) + 1))) w.heap.size (.slice Ao on co) os := HW8.out.2.2.1.keep (S := fun k => k = a) ((Kept.refl (fun k => k = a) W8).setCell (a := ⟨a, 2, none⟩) (fun _ => rfl) _) (fun k h1 h2 e => by omega)
              have hs8 : w.heap.size ≤ (W8.setCell ⟨a, 2, none⟩ (.int .i64 ((t2 : Int) + 1))).heap.size := by simp only [World.size_setCell]; exact HW8.out.2.1.size
              have hba : Below (W8.setCell ⟨a, 2, none⟩ (.int .i64 ((t2 : Int) + 1))).heap.size (W8.setCell ⟨a, 2, none⟩ (.int .i64 ((t2 : Int) + 1))) ((W8.setCell ⟨a, 2, none⟩ (.int .i64 ((t2 : Int) + 1))).alloc (.cells #[.slice Am ml cm] 30)) := (Below.refl _ _).alloc (Nat.le_refl _) _
              refine ⟨Lib.hid ?_, Lib.hid ?_, Lib.hid ((HW8.out.2.1.setCell (a := ⟨a, 2, none⟩) (fun _ => .inl rfl) _).alloc _), Lib.hid (hro.grow hba), Lib.hid (fun g hg e => ?_)⟩
              · rw [if_pos HNT.out]
                have := rows_made1 hs8 ho
                rwa [World.size_setCell] at this
              · have ht : s2.take ⟨Hl, Hp, Hn, Ha, true⟩ = { s2 with took := t2 + 1 } := by unfold Se.take; rw [HT2.out, if_pos HNT.out]
                rw [ht]
                exact (HW8.out.1.set2 (t2 + 1)).grow hba
              · injection hg with hg
                obtain ⟨us, hru, _⟩ := HW8.out.2.2.1
                have := (hru.lt g e).2
                simp only at hg
                omega
            · have k1 : ((Hn : Int) == (t2 : Int) + 1) = false := by simp; omega
              go_wp2_with fail
              go_meet
              refine ⟨Lib.hid (by rw [if_neg hnt]; exact rows_nil _ _), Lib.hid ?_, Lib.hid HW8.out.2.1, Lib.hid HW8.out.2.2.1, Lib.hid (fun g hg => by cases hg)⟩
              have ht : s2.take ⟨Hl, Hp, Hn, Ha, true⟩ = s2 := by unfold Se.take; rw [HT2.out, if_neg hnt]
              rw [ht]
              exact HW8.out.1
          case rest =>
            obtain ⟨HGOT, HS3, HK3, HOUT3, HAP⟩ := hcut
            have HOK3 := Lib.hid (take_ok HOK2.out ⟨Hl, Hp, Hn, Ha, true⟩ (by have := HFAR.out.2.2.2.1; unfold farN at this; exact this))
            obtain ⟨Ag, cg, rfl⟩ := HGOT.out.value
            obtain ⟨gn, HGN⟩ : ∃ gn, Hid ((if Hn = t2 + 1 then [m] else []).length = gn) := ⟨_, Lib.hid rfl⟩
            rw [HGN.out] at HGOT HAP
            simp only [HGN.out]
            have hsc := HK3.out.size
            have HPK := Lib.hid (packet_z wc a _ HS3.out HOK3.out 0 0 rfl (by omega) false none 0 0 [] Reads.none_ (by omega))
            obtain ⟨us, hru, hou⟩ := HOUT3.out
            rw [HON.out] at hru
            have HRU := Lib.hid hru
            have HOU := Lib.hid hou
            clear hru hou
            have hon : on ≤ 200 := by rw [← HON.out]; exact HOSL.out
            go_wp2_with (first
              | (go_at_call 20; ((with_reducible refine HPK.out.mono ?_); rintro e w9 ⟨q9, rfl, ho9, hb9⟩; have HO9 := Lib.hid ho9; obtain ⟨Au, cu, rfl, _⟩ := ho9.value; have HB9 := Lib.hid hb9; have hs9 := hb9.size; clear ho9 hb9))
              | (at_builtin; refine app_rows _ rfl (.tmp 119) (.tmp 122) rfl w.heap.size _ on us rfl (HRU.out.grow (HB9.out.alloc hs9 _)) _ _ 1 _ [_] rfl (by have := reads_new1 w9 (.slice Au (pktL (s2.take ⟨Hl, Hp, Hn, Ha, true⟩) 0 false []).length cu) 30; exact this) (by omega) (by intro u hu; simp at hu; subst hu; rfl) (by omega) (by rw [alloc_size]; omega) ?_; intro v10 w10 ho10 hk10 hg10; have HO10 := Lib.hid ho10; have HK10 := Lib.hid hk10; obtain ⟨A10, c10, rfl, _⟩ := ho10.form; clear ho10 hk10 hg10))
            go_ret3
            rw [HR3.out]
            have hb99 : Below wc.heap.size wc (w9.alloc (.cells #[.slice Au (pktL (s2.take ⟨Hl, Hp, Hn, Ha, true⟩) 0 false []).length cu] 30)) := HB9.out.alloc HB9.out.size _
            have hru9 := HRU.out.grow hb99
            obtain ⟨usg, hrg, hog⟩ := HGOT.out
            have hty : ∀ (g : Nat) (cc : Array Value), (w9.alloc (.cells #[.slice Au (pktL (s2.take ⟨Hl, Hp, Hn, Ha, true⟩) 0 false []).length cu] 30)).heap[g]? = some (.cells cc 5 (0, 0)) → ¬ (Value.slice Ao on co).ownBlock = some g := fun g cc hg e => row_apart_blk hru9 hg (by decide) e
            have hlo : ∀ k, (Value.slice Ao on co).ownBlock = some k → w.heap.size ≤ k := fun k hk => (HRU.out.lt k hk).1
            refine ⟨_, _, rfl, ⟨usg, (hrg.grow hb99).keep HK10.out (fun g hg e => HAP.out g hg e), (hog.grow hb99).keep HK10.out hty⟩, ⟨us ++ [.slice Au (pktL (s2.take ⟨Hl, Hp, Hn, Ha, true⟩) 0 false []).length cu], ?_, ?_⟩, v2, vs2, ?_, ?_, HGR.out⟩
            · rw [List.length_append, HON.out]; exact HO10.out
            · exact (OwnBs.snoc (HOU.out.grow hb99) ((OwnB.more HO9.out hsc).grow ((Below.refl _ _).alloc (Nat.le_refl _) _))).keep HK10.out hty
            · exact (HS3.out.grow hb99).keep HK10.out (fun e => by have := hlo a e; omega) (fun g hg e => by have := hlo g e; have := HVL.out g (HV2.out g hg); omega) hty
            · exact (HK3.out.trans (Kept.of_below hb99 : Kept (fun _ => False) _ _) (fun _ _ e => e.elim)).trans HK10.out (fun b hb e => by have := hlo b e; omega)
end
end Go.Proofs.Ytchhejheobceiaa
