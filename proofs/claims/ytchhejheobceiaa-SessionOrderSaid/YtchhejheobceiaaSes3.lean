/- The walks of a session's Send, all, Tick. No condition. -/
import Derived.Test.YtchhejheobceiaaSes2
namespace Go.Proofs.Ytchhejheobceiaa
open Go.RowKit
set_option linter.unusedVariables false

theorem heap_setCell_at {w : World} {g : Nat} {cur : Array Value} {e : TypeId} {fr : Nat × Nat} (h : w.heap[g]? = some (.cells cur e fr)) (o : Nat) (v : Value) : (w.setCell ⟨g, o, none⟩ v).heap[g]? = some (.cells (cur.setIfInBounds o v) e fr) := by
  have hlt := (Array.getElem?_eq_some_iff.1 h).1
  have h' : w.heap[g] = .cells cur e fr := by simpa [Array.getElem?_eq_getElem hlt] using h
  show (w.heap.modify g _)[g]? = _
  rw [Array.getElem?_eq_getElem (by simpa using hlt), Array.getElem_modify_self, h']
  rfl
/-- Rows of bytes, all of them from block b on. -/
def RowsAt (w : World) (b : Nat) (u : Value) (ls : List (List UInt8)) : Prop := ∃ us, Row w b 30 u ls.length us ∧ OwnBs w b us ls
def SesNow (B : Nat) (w : World) (a : Nat) (v : Value) (s : Se) (w' : World) : Prop := ∃ v' vs', SesAt B w' a v' vs' s ∧ Kept (foot a v) w w' ∧ ∀ g, v'.ownBlock = some g → v.ownBlock = some g ∨ w.heap.size ≤ g
theorem OwnB.more {w : World} {b b' : Nat} {u : Value} {m : List UInt8} (h : OwnB w b u m) (hb : b' ≤ b) : OwnB w b' u m := Row.more h hb
theorem OwnB.grow {w w1 : World} {b : Nat} {u : Value} {m : List UInt8} (h : OwnB w b u m) (hb : Below w.heap.size w w1) : OwnB w1 b u m := Row.grow h hb
theorem OwnBs.grow {w w1 : World} {b : Nat} {us : List Value} {ms : List (List UInt8)} (h : OwnBs w b us ms) (hb : Below w.heap.size w w1) : OwnBs w1 b us ms := ⟨h.len, fun i u m h1 h2 => (h.at_ i u m h1 h2).grow hb⟩
theorem OwnBs.more {w : World} {b b' : Nat} {us : List Value} {ms : List (List UInt8)} (h : OwnBs w b us ms) (hb : b' ≤ b) : OwnBs w b' us ms := ⟨h.len, fun i u m h1 h2 => (h.at_ i u m h1 h2).more hb⟩
theorem OwnBs.snoc {w : World} {b : Nat} {us : List Value} {ms : List (List UInt8)} {u : Value} {m : List UInt8} (h : OwnBs w b us ms) (hu : OwnB w b u m) : OwnBs w b (us ++ [u]) (ms ++ [m]) := by
  refine ⟨by simp [h.len], fun i x y h1 h2 => ?_⟩
  by_cases hi : i < us.length
  · rw [List.getElem?_append_left hi] at h1
    rw [List.getElem?_append_left (by rw [← h.len]; exact hi)] at h2
    exact h.at_ i x y h1 h2
  · rw [List.getElem?_append_right (by omega)] at h1
    rw [List.getElem?_append_right (by rw [← h.len]; omega)] at h2
    have hi0 : i - us.length = 0 := by have := (List.getElem?_eq_some_iff.1 h1).1; simp at this; omega
    rw [hi0] at h1
    rw [← h.len, hi0] at h2
    simp at h1 h2
    subst h1 h2
    exact hu
theorem OwnB.value {w : World} {b : Nat} {u : Value} {m : List UInt8} (h : OwnB w b u m) : ∃ A c, u = .slice A m.length c ∧ m.length ≤ c ∧ c ≤ maxLen ∧ Reads w w.heap.size 1 A m.length (bc m) := Row.form h
theorem own_made1 (w : World) (u : Value) (base : Nat) (hb : base ≤ w.heap.size) : (w.alloc (.cells #[u] 30)).ownsRow base 30 1 (.slice (some ⟨w.heap.size, 0, none⟩) 1 1) 1 [u] :=
  ⟨rfl, .inr ⟨w.heap.size, 1, #[u], rfl, hb, heap_alloc_new w _, Nat.le_refl _, by simp [maxLen], rfl, rfl⟩⟩
theorem rows_made1 {w : World} {u : Value} {b : Nat} {m : List UInt8} (hb : b ≤ w.heap.size) (h : OwnB w b u m) : RowsAt (w.alloc (.cells #[u] 30)) b (.slice (some ⟨w.heap.size, 0, none⟩) 1 1) [m] := by
  refine ⟨[u], Row.of_own (own_made1 w u b hb), rfl, fun i x y h1 h2 => ?_⟩
  cases i with
  | zero => simp at h1 h2; subst h1 h2; exact h.grow ((Below.refl _ _).alloc (Nat.le_refl _) _)
  | succ i => simp at h1
theorem packet_z (w : World) (a : Nat) (s : Se) {B : Nat} {v : Value} {vs : List Value} (h : SesAt B w a v vs s) (hok : s.Ok) (z : Int) (num : Nat) (hz : z = (num : Int)) (hnum : num ≤ 4000000000000) (has : Bool) (A : Option Addr) (n c : Nat) (m : List UInt8) (hr : Reads w w.heap.size 1 A n (bc m)) (hn : n ≤ 65536) :
    Calls Try.prog 20 #[.pointer (some ⟨a, 0, none⟩), .int .i64 z, .slice A n c, .bool has] w fun e w' =>
      ∃ u, e = .returned u ∧ OwnB w' w.heap.size u (pktL s num has m) ∧ Below w.heap.size w w' := by
  subst hz
  obtain ⟨c0, c1, c2, _, _⟩ := h.cells_
  have := hok.life; have := hok.peer; have := hok.took
  refine (packet_any w a s.life s.peer s.took num has A n c m h.lt c0 c1 c2 (by omega) (by omega) (by omega) hnum hr hn).mono ?_
  rintro e w' ⟨B', c', h1, h2, h3⟩
  exact ⟨_, h1, Row.of_own h2, h3⟩

/-- What Send leaves. -/
def Se.push (s : Se) (m : List UInt8) : Se := { s with wait := s.wait ++ [m] }
section
variable (B : Nat) (w : World) (a : Nat) (v : Value) (vs : List Value) (s : Se) (h : SesAt B w a v vs s) (hok : s.Ok) (A : Option Addr) (n c : Nat) (m : List UInt8)
include h hok
set_option maxRecDepth 100000 in
set_option maxHeartbeats 4000000 in
theorem send_no (hn : n ≤ 9223372036854775807) (hbig : 65536 < n ∨ s.wait.length = 200) : Calls Try.prog 8 #[.pointer (some ⟨a, 0, none⟩), .slice A n c] w fun e w' => e = .returned (.tuple #[.slice none 0 0, .int .i64 2]) ∧ w = w' := by
  obtain ⟨c0, _, _, _, c4⟩ := h.cells_
  have HG := Lib.hid (gone_no w a s.life hok.life.1 c0)
  obtain ⟨Av, cv, hv, _⟩ := h.row.form
  subst hv
  obtain ⟨N, hN⟩ : ∃ N, s.wait.length = N := ⟨_, rfl⟩
  rw [hN] at c4 hbig
  have hways : (65536 : Int) < (n : Int) ∨ (decide ((65536 : Int) < (n : Int)) = false ∧ (200 : Int) ≤ (N : Int)) := by
    by_cases h1 : 65536 < n
    · left; omega
    · right; exact ⟨by simp; omega, by omega⟩
  clear h hok hbig hN
  rcases hways with e1 | ⟨e1, e2⟩
  all_goals
    go_enter Try.func8, Try.ntmps8
    go_wp2_with (first
      | (refine wpList_unguard rfl ?_)
      | (go_at_call 18; ((with_reducible refine HG.out.mono ?_); rintro e w' ⟨rfl, rfl⟩)))
    go_ret2
    exact ⟨rfl, rfl⟩

set_option maxRecDepth 100000 in
set_option maxHeartbeats 8000000 in
theorem send_yes (hB : B ≤ w.heap.size) (hrk : ∀ W, Kept (foot a v) w W → Reads W w.heap.size 1 A n (bc m)) (hn : n ≤ 65536) (hw : s.wait.length < 200) :
    Calls Try.prog 8 #[.pointer (some ⟨a, 0, none⟩), .slice A n c] w fun e w' => ∃ u, e = .returned (.tuple #[u, .int .i64 0]) ∧ RowsAt w' w.heap.size u [pktL (s.push m) (s.first + s.wait.length) true m] ∧ SesNow B w a v (s.push m) w' := by
  have HS := Lib.hid h
  have HOK := Lib.hid hok
  have hr := hrk w (Kept.refl _ _)
  obtain ⟨c0, c1, c2, c3, c4⟩ := h.cells_
  have hal := h.lt
  have f4 := h.free 4
  have HG := Lib.hid (gone_no w a s.life hok.life.1 c0)
  obtain ⟨Av, cv, rfl, _⟩ := h.row.form
  have HNE : Hid ((Value.slice Av s.wait.length cv).ownBlock ≠ some a) := Lib.hid (row_apart_blk h.row h.cell (by decide))
  have HC : Hid (∀ W, Below w.heap.size w W → Calls Try.prog 19 #[.slice A n c] W (RetBytes W.heap.size W m)) := Lib.hid fun W hb => clone_any A n c m W (hr.below hb) hb.size (by omega)
  have HR := Lib.hid hrk
  have e1 : decide ((65536 : Int) < (n : Int)) = false := by simp; omega
  have HML : Hid (m.length = n) := Lib.hid (by have := hr.1; rw [bc_length] at this; omega)
  obtain ⟨N, HN⟩ : ∃ N, Hid (s.wait.length = N) := ⟨_, Lib.hid rfl⟩
  rw [HN.out] at c4 hw HR
  have hfi := hok.first
  obtain ⟨fi, HFI⟩ : ∃ fi, Hid (s.first = fi) := ⟨_, Lib.hid rfl⟩
  rw [HFI.out] at c3 hfi
  have e2 : decide ((200 : Int) ≤ (N : Int)) = false := by simp; omega
  clear h hok hr hrk c1 c2
  go_enter Try.func8, Try.ntmps8
  go_upto_region 5 with (first
    | (refine wpList_unguard rfl ?_)
    | (go_at_call 18; ((with_reducible refine HG.out.mono ?_); rintro e w' ⟨rfl, rfl⟩)))
  go_cut [] from 21 (fun wx => ∃ (v' : Value) (vs' : List Value), Hid (SesAt B wx a v' vs' (s.push m)) ∧ Hid (Kept (foot a (.slice Av N cv)) w wx) ∧ Hid (∀ g, v'.ownBlock = some g → (Value.slice Av N cv).ownBlock = some g ∨ w.heap.size ≤ g))
  case first =>
    have HROW : Hid (Row w B 30 (.slice Av N cv) N vs) := Lib.hid (by have := HS.out.row; rw [HN.out] at this; exact this)
    rw [HN.out] at HNE
    have HFIN : Hid (∀ W3 A3 c3 v6 w6, OwnB W3 w.heap.size (.slice A3 m.length c3) m → Below w.heap.size w W3 → Row w6 B 30 v6 (N + 1) (vs ++ [.slice A3 m.length c3]) → Kept (fun k => (Value.slice Av N cv).ownBlock = some k) W3 w6 → (∀ g, v6.ownBlock = some g → (Value.slice Av N cv).ownBlock = some g ∨ W3.heap.size ≤ g) →
        SesAt B (w6.setCell ⟨a, 4, none⟩ v6) a v6 (vs ++ [.slice A3 m.length c3]) (s.push m) ∧ Kept (foot a (.slice Av N cv)) w (w6.setCell ⟨a, 4, none⟩ v6) ∧ ∀ g, v6.ownBlock = some g → (Value.slice Av N cv).ownBlock = some g ∨ w.heap.size ≤ g) := Lib.hid (by
      intro W3 A3 c3' v6 w6 g1 g2 g3 g4 g5
      have ha3 : a < W3.heap.size := by have := g2.size; omega
      have cellA : w6.heap[a]? = some (.cells #[.int .i64 s.life, .int .i64 s.peer, .int .i64 s.took, .int .i64 s.first, .slice Av N cv] 47 (0, 0)) := by
        rw [g4.block a ha3 HNE.out, g2.block a hal]
        have := HS.out.cell
        rwa [HN.out] at this
      have K2 : Kept (fun k => (Value.slice Av N cv).ownBlock = some k) w w6 := (Kept.of_below g2 : Kept (fun k => (Value.slice Av N cv).ownBlock = some k) w W3).trans g4 (fun _ _ e => e)
      have hbl : ∀ {g : Nat} {cc : Array Value}, w6.heap[g]? = some (.cells cc 5 (0, 0)) → ¬ (g = a) := fun hg e => by
        rw [e, cellA] at hg; injection hg with hg; injection hg with _ hg; cases hg
      have KS : Kept (fun k => k = a) w6 (w6.setCell ⟨a, 4, none⟩ v6) := (Kept.refl (fun k => k = a) w6).setCell (a := ⟨a, 4, none⟩) (fun _ => rfl) _
      refine ⟨⟨HS.out.lo, ?_, ?_, ?_⟩, (K2.mono (fun _ _ e => .inr e)).trans KS (fun b _ e => .inl e), fun g hg => (g5 g hg).imp id (fun e => by have := g2.size; omega)⟩
      · exact heap_setCell_at cellA 4 v6
      · have : (s.push m).wait.length = N + 1 := by simp [Se.push, HN.out]
        rw [this]
        exact g3.setCell_other (row_apart_blk g3 cellA (by decide)) _
      · refine OwnBs.keep (OwnBs.snoc ?_ ?_) KS (fun g cc hg => hbl hg)
        · refine HS.out.msgs.keep K2 (fun g cc hg e => ?_)
          exact row_apart_blk HROW.out hg (by decide) e
        · refine (OwnB.more g1 (Nat.zero_le _)).keep g4 (fun g cc hg e => ?_)
          exact row_apart_blk (HROW.out.grow g2) hg (by decide) e)
    go_region_law (first
      | (refine step_app_rows _ rfl (.tmp 25) (.tmp 28) rfl B _ N vs rfl (HROW.out.grow HB4.out) _ _ 1 _ [.slice A3 m.length c3'] rfl (by have := reads_new1 W3 (.slice A3 m.length c3') 30; exact this) (by omega) (by intro u hu; simp at hu; subst hu; rfl) (by omega) (by have := HB4.out.size; omega) ?_; intro v6 w6 ho6 hk6 hg6; have HO6 := Lib.hid ho6; have HK6 := Lib.hid hk6; have HG6 := Lib.hid hg6; obtain ⟨A6, c6, rfl, _⟩ := ho6.form; have y6 : w6.cell? ⟨a, 4, none⟩ = some (.slice Av N cv) := (hk6.cell (a := ⟨a, 4, none⟩) (by rw [alloc_size]; exact Nat.lt_succ_of_lt hal3) HNE.out).trans ((World.cell?_alloc_lt _ _ _ hal3).trans y3); have z6 : w6.frozen? ⟨a, 4, none⟩ = false := (hk6.frozen (a := ⟨a, 4, none⟩) (by rw [alloc_size]; exact Nat.lt_succ_of_lt hal3) HNE.out).trans ((World.frozen?_alloc_past _ _ _ hal3).trans z3); clear ho6 hk6 hg6)
      | (go_simp; go_at_call 19; ((with_reducible refine (HC.out _ (Below.refl _ _).drew).mono ?_); rintro e W3 h3; obtain ⟨A3, c3', rfl, ho3, hb3, hc3, hm3, hr3⟩ := h3.open_; have HO3 := Lib.hid ho3; have HB3 := Lib.hid hb3; have HB4 : Hid (Below w.heap.size w (W3.alloc (.cells #[.slice A3 m.length c3'] 30))) := Lib.hid (((Below.refl w.heap.size w).drew.trans hb3).alloc (by have := hb3.size; exact this) _); have hal3 : a < W3.heap.size := Nat.lt_of_lt_of_le hal hb3.size; have y3 : W3.cell? ⟨a, 4, none⟩ = some (.slice Av N cv) := (hb3.cell (p := ⟨a, 4, none⟩) hal).trans c4; have z3 : W3.frozen? ⟨a, 4, none⟩ = false := (hb3.frozen (p := ⟨a, 4, none⟩) hal).trans f4; have HB3' : Hid (Below w.heap.size w W3) := Lib.hid ((Below.refl w.heap.size w).drew.trans hb3); clear ho3 hb3 hr3 hc3)))
    all_goals go_wp2_with fail
    all_goals go_meet
    all_goals
      have ho : OwnB W3 w.heap.size (.slice A3 m.length c3') m := Row.of_own HO3.out
      obtain ⟨P1, P2, P3⟩ := HFIN.out _ A3 c3' _ _ (ho.grow ((Below.refl _ _).alloc (Nat.le_refl _) _)) HB4.out HO6.out HK6.out HG6.out
      exact ⟨_, _, Lib.hid P1, Lib.hid P2, Lib.hid P3⟩
  case rest =>
    obtain ⟨v', vs', HS', HK', HG'⟩ := hcut
    have HPL : Hid ((s.push m).wait.length = N + 1) := Lib.hid (by simp [Se.push, HN.out])
    have hwl : (s.push m).first = fi := HFI.out
    have hf1 : 1 ≤ fi := by rw [← HFI.out]; exact HOK.out.first.1
    have hf2 : fi ≤ 2000000000000 := by rw [← HFI.out]; exact HOK.out.first.2
    obtain ⟨_, _, _, d3, d4⟩ := HS'.out.cells_
    obtain ⟨A', c', hv', _⟩ := HS'.out.row.form
    rw [HPL.out] at hv'
    subst hv'
    rw [hwl] at d3
    have HOK' : Hid (s.push m).Ok := Lib.hid ⟨HOK.out.life, HOK.out.peer, HOK.out.took, HOK.out.first, by rw [HPL.out]; omega, fun x hx => by
      rcases List.mem_append.1 hx with hx | hx
      · exact HOK.out.msg x hx
      · simp at hx; subst hx; rw [HML.out]; exact hn⟩
    have hsz := HK'.out.size
    have HPK : Hid (∀ W z, Below wc.heap.size wc W → z = ((fi + N : Nat) : Int) → Calls Try.prog 20 #[.pointer (some ⟨a, 0, none⟩), .int .i64 z, .slice A n c, .bool true] W fun e w' => ∃ u, e = .returned u ∧ OwnB w' W.heap.size u (pktL (s.push m) (fi + N) true m) ∧ Below W.heap.size W w') := Lib.hid fun W z hb hz =>
      packet_z W a (s.push m) (HS'.out.grow hb) HOK'.out z (fi + N) hz (by omega) true A n c m (((HR.out wc HK'.out).more hsz |>.below hb).more hb.size) hn
    have HFE := Lib.hid (show s.first + s.wait.length = fi + N by rw [HFI.out, HN.out])
    have w1 : IntKind.i64.wrap ((fi : Int) + ((N : Int) + 1)) = (fi : Int) + ((N : Int) + 1) := IntWalk.i64_in _ (by omega)
    have w2 : IntKind.i64.wrap ((fi : Int) + ((N : Int) + 1) - 1) = (fi : Int) + ((N : Int) + 1) - 1 := IntWalk.i64_in _ (by omega)
    go_upto_region 6 with fail
    go_region_law (go_simp; go_at_call 20; ((with_reducible refine (HPK.out _ _ (Below.refl _ _).drew (by omega)).mono ?_); rintro e w3 ⟨u3, rfl, ho3, hb3⟩; have HO3 := Lib.hid ho3; obtain ⟨Au, cu, rfl, _⟩ := ho3.value; have HB3 := Lib.hid hb3; clear ho3 hb3))
    all_goals go_wp2
    all_goals go_ret2
    all_goals
      have hb4 : Below wc.heap.size wc (w3.alloc (.cells #[.slice Au (pktL (s.push m) (fi + N) true m).length cu] 30)) := ((Below.refl wc.heap.size wc).drew.trans HB3.out).alloc HB3.out.size _
      have hs3 : w.heap.size ≤ w3.heap.size := Nat.le_trans hsz HB3.out.size
      have ho3 : OwnB w3 w.heap.size (.slice Au (pktL (s.push m) (fi + N) true m).length cu) (pktL (s.push m) (fi + N) true m) := OwnB.more HO3.out hsz
      rw [HFE.out, HN.out]
      exact ⟨_, rfl, rows_made1 hs3 ho3, _, _, HS'.out.grow hb4, HK'.out.trans (Kept.of_below hb4 : Kept (fun _ => False) _ _) (fun _ _ e => e.elim), HG'.out⟩
end
end Go.Proofs.Ytchhejheobceiaa
