/- The reference session in memory; its num and packet. No condition. -/
import Derived.Test.YtchhejheobceiaaSes9
import Derived.Deep.RegionHeld3
namespace Go.Proofs.Ytchhejheobceiaa
open Go.RowKit
set_option linter.unusedVariables false

structure RsAt (B : Nat) (w : World) (a : Nat) (v : Value) (vs : List Value) (s : Se) : Prop where
  lo : B ≤ a
  cell : w.heap[a]? = some (.cells #[.int .i64 s.life, .int .i64 s.peer, .int .i64 s.first, v, .int .i64 s.took] 63 (0, 0))
  row : Row w B 30 v s.wait.length vs
  msgs : OwnBs w 0 vs s.wait
section
variable {B : Nat} {w w1 : World} {a : Nat} {v : Value} {vs : List Value} {s : Se}
theorem RsAt.lt (h : RsAt B w a v vs s) : a < w.heap.size := (Array.getElem?_eq_some_iff.1 h.cell).1
theorem RsAt.keep {S : Nat → Prop} (h : RsAt B w a v vs s) (hk : Kept S w w1) (ha : ¬ S a) (hv : ∀ g, v.ownBlock = some g → ¬ S g) (hb : ∀ g c, w.heap[g]? = some (.cells c 5 (0, 0)) → ¬ S g) : RsAt B w1 a v vs s :=
  ⟨h.lo, by rw [hk.block a h.lt ha]; exact h.cell, h.row.keep hk hv, h.msgs.keep hk hb⟩
theorem RsAt.grow (h : RsAt B w a v vs s) (hb : Below w.heap.size w w1) : RsAt B w1 a v vs s := h.keep (S := fun _ => False) (.of_below hb) id (fun _ _ => id) (fun _ _ _ => id)
theorem RsAt.cells_ (h : RsAt B w a v vs s) : w.cell? ⟨a, 0, none⟩ = some (.int .i64 s.life) ∧ w.cell? ⟨a, 1, none⟩ = some (.int .i64 s.peer) ∧ w.cell? ⟨a, 2, none⟩ = some (.int .i64 s.first) ∧ w.cell? ⟨a, 3, none⟩ = some v ∧ w.cell? ⟨a, 4, none⟩ = some (.int .i64 s.took) :=
  ⟨by rw [cell_of_row w a 0 _ _ (0, 0) h.cell]; rfl, by rw [cell_of_row w a 1 _ _ (0, 0) h.cell]; rfl, by rw [cell_of_row w a 2 _ _ (0, 0) h.cell]; rfl, by rw [cell_of_row w a 3 _ _ (0, 0) h.cell]; rfl, by rw [cell_of_row w a 4 _ _ (0, 0) h.cell]; rfl⟩
theorem RsAt.free (h : RsAt B w a v vs s) (j : Nat) : w.frozen? ⟨a, j, none⟩ = false := by simp [World.frozen?, h.cell]
theorem RsAt.kept_self (h : RsAt B w a v vs s) (j : Nat) (u : Value) : Row (w.setCell ⟨a, j, none⟩ u) B 30 v s.wait.length vs ∧ OwnBs (w.setCell ⟨a, j, none⟩ u) 0 vs s.wait := by
  have KS : Kept (fun k => k = a) w (w.setCell ⟨a, j, none⟩ u) := (Kept.refl (fun k => k = a) w).setCell (a := ⟨a, j, none⟩) (fun _ => rfl) _
  refine ⟨h.row.setCell_other (row_apart_blk h.row h.cell (by decide)) _, h.msgs.keep KS (fun g c hg e => ?_)⟩
  subst e
  rw [h.cell] at hg
  injection hg with hg
  injection hg with _ hg
  cases hg
theorem RsAt.setPeer (h : RsAt B w a v vs s) (p : Nat) : RsAt B (w.setCell ⟨a, 1, none⟩ (.int .i64 p)) a v vs { s with peer := p } :=
  ⟨h.lo, heap_setCell_at h.cell 1 _, (h.kept_self 1 _).1, (h.kept_self 1 _).2⟩
theorem RsAt.setTook (h : RsAt B w a v vs s) (p : Nat) : RsAt B (w.setCell ⟨a, 4, none⟩ (.int .i64 p)) a v vs { s with took := p } :=
  ⟨h.lo, heap_setCell_at h.cell 4 _, (h.kept_self 4 _).1, (h.kept_self 4 _).2⟩
theorem RsAt.setFirst (h : RsAt B w a v vs s) (p : Nat) : RsAt B (w.setCell ⟨a, 2, none⟩ (.int .i64 p)) a v vs { s with first := p } :=
  ⟨h.lo, heap_setCell_at h.cell 2 _, (h.kept_self 2 _).1, (h.kept_self 2 _).2⟩
/-- The first n that wait are struck. -/
theorem RsAt.setWait {A : Option Addr} {c : Nat} (h : RsAt B w a (.slice A s.wait.length c) vs s) {n : Nat} (hn : n ≤ s.wait.length) (u : Value) (hu : u = .slice (if c = n then A else A.map (·.add n)) (s.wait.length - n) (c - n)) :
    RsAt B (w.setCell ⟨a, 3, none⟩ u) a u (vs.drop n) { s with wait := s.wait.drop n } := by
  subst hu
  refine ⟨h.lo, heap_setCell_at h.cell 3 _, ?_, ?_⟩
  · have := (h.kept_self 3 (.slice (if c = n then A else A.map (·.add n)) (s.wait.length - n) (c - n))).1.cut hn
    simpa [List.length_drop] using this
  · have hk := (h.kept_self 3 (.slice (if c = n then A else A.map (·.add n)) (s.wait.length - n) (c - n))).2
    refine ⟨by simp [hk.len], fun i x m h1 h2 => ?_⟩
    rw [List.getElem?_drop] at h1 h2
    exact hk.at_ _ x m h1 h2
theorem RsAt.not_byte (h : RsAt B w a v vs s) {g : Nat} {c : Array Value} (hg : w.heap[g]? = some (.cells c 5 (0, 0))) : ¬ foot a v g := fun hf => by
  rcases hf with rfl | e
  · rw [h.cell] at hg; injection hg with hg; injection hg with _ hg; cases hg
  · exact row_apart_blk h.row hg (by decide) e
theorem SesAt.not_byte (h : SesAt B w a v vs s) {g : Nat} {c : Array Value} (hg : w.heap[g]? = some (.cells c 5 (0, 0))) : ¬ foot a v g := fun hf => by
  rcases hf with rfl | e
  · rw [h.cell] at hg; injection hg with hg; injection hg with _ hg; cases hg
  · exact row_apart_blk h.row hg (by decide) e
end
/-- The reference session behind a call. -/
def RsNow (B : Nat) (w : World) (a : Nat) (v : Value) (s : Se) (w' : World) : Prop := ∃ v' vs', RsAt B w' a v' vs' s ∧ Kept (foot a v) w w' ∧ ∀ g, v'.ownBlock = some g → v.ownBlock = some g ∨ w.heap.size ≤ g

theorem rvarint_num (x : Nat) (z : Int) (w : World) (hz : z = (x : Int)) (hx : x < 18446744073709551616) : Calls Try.prog 46 #[.int .u64 z] w (RetBytes w.heap.size w (Lib.uvarint x)) := by
  subst hz
  exact refVarint_any x w hx
set_option maxRecDepth 100000 in
theorem rnum_any (w : World) (base : Nat) (hbase : base ≤ w.heap.size) (A : Option Addr) (n c : Nat) (l : List UInt8) (ho : w.ownsRow base 5 1 (.slice A n c) n (bc l)) (hn : n ≤ 1000) (x : Nat) (hx : x ≤ 4000000000000) (L : List UInt8) (N : Nat) (hL : l ++ Lib.uvarint x = L) (hN : L.length = N) :
    Calls Try.prog 41 #[.slice A n c, .int .i64 (x : Int)] w fun e w' => ∃ A' c', e = .returned (.slice A' N c') ∧ w'.ownsRow base 5 1 (.slice A' N c') N (bc L) ∧ Below base w w' := by
  have HO := Lib.hid ho
  have HX : Hid ((Lib.uvarint x).length ≤ 10) := Lib.hid (Lib.uvarint_length64 (by omega))
  have HN : Hid (n + (Lib.uvarint x).length = N) := Lib.hid (by rw [← hN, ← hL, List.length_append]; have := ho.1; rw [bc_length] at this; omega)
  have HL : Hid (bc l ++ bc (Lib.uvarint x) = bc L) := Lib.hid (by rw [← hL]; exact (Lib.byteCells_append _ _).symm)
  clear ho hL hN
  go_enter Try.func41, Try.ntmps41
  go_wp2_with (first
    | (go_at_call 46; refine (rvarint_num x _ _ (by omega) (by omega)).mono ?_; rintro e w2 h2; obtain ⟨A2, c2, rfl, ho2, hb2, hc2, hm2, hr2⟩ := h2.open_; have HR2 := Lib.hid hr2; have HB2 := Lib.hid hb2; have hbs2 := hb2.size; have HO2 := Lib.hid (own_below HO.out hb2 (Nat.le_refl _)); clear h2 ho2 hb2 hr2 hc2)
    | (at_builtin; refine app_bytes _ rfl (.tmp 5) (.tmp 8) rfl base _ _ _ rfl (.inl HO2.out) w2.heap.size _ (Lib.uvarint x).length _ _ rfl HR2.out (bc_one _) (by have := HX.out; omega) (by omega) ?_; intro v3 w3 ho3 hb3 hr3; have HO3 := Lib.hid (hr3 (.inl HO2.out)); have HB3 := Lib.hid hb3; clear ho3 hb3 hr3))
  go_ret
  have h := HO3.out
  rw [HN.out, HL.out] at h
  obtain ⟨A', c', rfl, _⟩ := Owns.form (.inl h)
  exact ⟨A', c', rfl, h, (HB2.out.mono hbase).trans HB3.out⟩
set_option maxRecDepth 100000 in
set_option maxHeartbeats 4000000 in
theorem rpacket_any (w : World) (a : Nat) (l p t num : Nat) (has : Bool) (A : Option Addr) (n c : Nat) (m : List UInt8) (hlt : a < w.heap.size) (c0 : w.cell? ⟨a, 0, none⟩ = some (.int .i64 l)) (c1 : w.cell? ⟨a, 1, none⟩ = some (.int .i64 p)) (c4 : w.cell? ⟨a, 4, none⟩ = some (.int .i64 t))
    (hl : l ≤ 2000000000000) (hp : p ≤ 2000000000000) (ht : t ≤ 2000000000000) (hnum : num ≤ 4000000000000) (hr : Reads w w.heap.size 1 A n (bc m)) (hn : n ≤ 65536) (hhas : has = false → m = []) :
    Calls Try.prog 34 #[.pointer (some ⟨a, 0, none⟩), .int .i64 num, .slice A n c, .bool has] w fun e w' =>
      ∃ B c', e = .returned (.slice B (putL (bodyL l p num t has m)).length c') ∧ w'.ownsRow w.heap.size 5 1 (.slice B (putL (bodyL l p num t has m)).length c') (putL (bodyL l p num t has m)).length (bc (putL (bodyL l p num t has m))) ∧ Below w.heap.size w w' := by
  have HR := Lib.hid hr
  have HML : Hid (m.length = n) := Lib.hid (by have := hr.1; rw [bc_length] at this; omega)
  clear hr
  have HHM := Lib.hid hhas
  clear hhas
  obtain ⟨L1, HL1⟩ : ∃ L, Hid ([] ++ Lib.uvarint l = L) := ⟨_, Lib.hid rfl⟩
  obtain ⟨L2, HL2⟩ : ∃ L, Hid (L1 ++ Lib.uvarint p = L) := ⟨_, Lib.hid rfl⟩
  obtain ⟨L3, HL3⟩ : ∃ L, Hid (L2 ++ Lib.uvarint num = L) := ⟨_, Lib.hid rfl⟩
  obtain ⟨L4, HL4⟩ : ∃ L, Hid (L3 ++ Lib.uvarint t = L) := ⟨_, Lib.hid rfl⟩
  obtain ⟨N1, HN1⟩ : ∃ N, Hid (L1.length = N) := ⟨_, Lib.hid rfl⟩
  obtain ⟨N2, HN2⟩ : ∃ N, Hid (L2.length = N) := ⟨_, Lib.hid rfl⟩
  obtain ⟨N3, HN3⟩ : ∃ N, Hid (L3.length = N) := ⟨_, Lib.hid rfl⟩
  obtain ⟨N4, HN4⟩ : ∃ N, Hid (L4.length = N) := ⟨_, Lib.hid rfl⟩
  have q1 : N1 ≤ 10 := by rw [← HN1.out, ← HL1.out, List.nil_append]; exact Lib.uvarint_length64 (by omega)
  have q2 : N2 ≤ 20 := by rw [← HN2.out, ← HL2.out, List.length_append, HN1.out]; have := Lib.uvarint_length64 (x := p) (by omega); omega
  have q3 : N3 ≤ 30 := by rw [← HN3.out, ← HL3.out, List.length_append, HN2.out]; have := Lib.uvarint_length64 (x := num) (by omega); omega
  have q4 : N4 ≤ 40 := by rw [← HN4.out, ← HL4.out, List.length_append, HN3.out]; have := Lib.uvarint_length64 (x := t) (by omega); omega
  have HBD : Hid (bodyL l p num t has m = L4 ++ [if has then 1 else 0] ++ m) := Lib.hid (by rw [← HL4.out, ← HL3.out, ← HL2.out, ← HL1.out]; rfl)
  obtain ⟨D, HD⟩ : ∃ D, Hid (bodyL l p num t has m = D) := ⟨_, Lib.hid rfl⟩
  rw [HD.out] at HBD
  rw [HD.out]
  have HBC : Hid (bc D = (bc L4 ++ [.int .u8 (if has then 1 else 0)]) ++ bc m) := Lib.hid (by rw [HBD.out]; cases has <;> simp [bc, Lib.byteCells])
  clear HBD HD
  have hd0 : w.heap.size ≤ w.drew.heap.size := Nat.le_refl _
  have x0 := Lib.hid c0; have x1 := Lib.hid c1; have x4 := Lib.hid c4
  go_enter Try.func34, Try.ntmps34
  go_upto_region 1 with fail
  go_region_held3 (fun w' => w'.cell? ⟨a, 0, none⟩ = some (.int .i64 (l : Int)) ∧ w'.cell? ⟨a, 1, none⟩ = some (.int .i64 (p : Int)) ∧ w'.cell? ⟨a, 4, none⟩ = some (.int .i64 (t : Int))) (first | assumption | exact ⟨x0.out, x1.out, x4.out⟩ | go_keep) (first
    | (go_simp; go_at_call 41; ((with_reducible refine (rnum_any w.drew w.heap.size hd0 none 0 0 [] (World.ownsRow_nil _ _ _ _) (by omega) l (by omega) L1 N1 HL1.out HN1.out).mono ?_); rintro e w1 ⟨A1, k1, rfl, ho1, hb1⟩; have HO1 := Lib.hid ho1; have HB1 : Hid (Below w.heap.size w w1) := Lib.hid ((Below.refl w.heap.size w).drew.trans hb1); have s1 : w1.cell? ⟨a, 0, none⟩ = some (.int .i64 (l : Int)) ∧ w1.cell? ⟨a, 1, none⟩ = some (.int .i64 (p : Int)) ∧ w1.cell? ⟨a, 4, none⟩ = some (.int .i64 (t : Int)) := ⟨(HB1.out.cell (p := ⟨a, 0, none⟩) hlt).trans x0.out, (HB1.out.cell (p := ⟨a, 1, none⟩) hlt).trans x1.out, (HB1.out.cell (p := ⟨a, 4, none⟩) hlt).trans x4.out⟩; have z1 := HB1.out.size; clear ho1 hb1))
    | (go_simp; go_at_call 41; ((with_reducible refine (rnum_any w1 w.heap.size z1 A1 N1 k1 L1 HO1.out (by omega) p (by omega) L2 N2 HL2.out HN2.out).mono ?_); rintro e w2 ⟨A2, k2, rfl, ho2, hb2⟩; have HO2 := Lib.hid ho2; have HB2 : Hid (Below w.heap.size w w2) := Lib.hid (HB1.out.trans hb2); have s2 : w2.cell? ⟨a, 0, none⟩ = some (.int .i64 (l : Int)) ∧ w2.cell? ⟨a, 1, none⟩ = some (.int .i64 (p : Int)) ∧ w2.cell? ⟨a, 4, none⟩ = some (.int .i64 (t : Int)) := ⟨(HB2.out.cell (p := ⟨a, 0, none⟩) hlt).trans x0.out, (HB2.out.cell (p := ⟨a, 1, none⟩) hlt).trans x1.out, (HB2.out.cell (p := ⟨a, 4, none⟩) hlt).trans x4.out⟩; have z2 := HB2.out.size; clear ho2 hb2))
    | (go_simp; go_at_call 41; ((with_reducible refine (rnum_any w2 w.heap.size z2 A2 N2 k2 L2 HO2.out (by omega) num (by omega) L3 N3 HL3.out HN3.out).mono ?_); rintro e w3 ⟨A3, k3, rfl, ho3, hb3⟩; have HO3 := Lib.hid ho3; have HB3 : Hid (Below w.heap.size w w3) := Lib.hid (HB2.out.trans hb3); have s3 : w3.cell? ⟨a, 0, none⟩ = some (.int .i64 (l : Int)) ∧ w3.cell? ⟨a, 1, none⟩ = some (.int .i64 (p : Int)) ∧ w3.cell? ⟨a, 4, none⟩ = some (.int .i64 (t : Int)) := ⟨(HB3.out.cell (p := ⟨a, 0, none⟩) hlt).trans x0.out, (HB3.out.cell (p := ⟨a, 1, none⟩) hlt).trans x1.out, (HB3.out.cell (p := ⟨a, 4, none⟩) hlt).trans x4.out⟩; have z3 := HB3.out.size; clear ho3 hb3))
    | (go_simp; go_at_call 41; ((with_reducible refine (rnum_any w3 w.heap.size z3 A3 N3 k3 L3 HO3.out (by omega) t (by omega) L4 N4 HL4.out HN4.out).mono ?_); rintro e w4 ⟨A4, k4, rfl, ho4, hb4⟩; have HO4 := Lib.hid ho4; have HB4 : Hid (Below w.heap.size w w4) := Lib.hid (HB3.out.trans hb4); have s4 : w4.cell? ⟨a, 0, none⟩ = some (.int .i64 (l : Int)) ∧ w4.cell? ⟨a, 1, none⟩ = some (.int .i64 (p : Int)) ∧ w4.cell? ⟨a, 4, none⟩ = some (.int .i64 (t : Int)) := ⟨(HB4.out.cell (p := ⟨a, 0, none⟩) hlt).trans x0.out, (HB4.out.cell (p := ⟨a, 1, none⟩) hlt).trans x1.out, (HB4.out.cell (p := ⟨a, 4, none⟩) hlt).trans x4.out⟩; have z4 := HB4.out.size; clear ho4 hb4)))
  all_goals
    have HRW : Hid (Reads w4 w.heap.size 1 A n (bc m)) := Lib.hid (HR.out.below HB4.out)
    clear s1 s2 s3 s4 c0 c1 c4
    cases has
  · simp only [Bool.false_eq_true, if_false] at HBC
    have HM0 : Hid (bc D = bc L4 ++ [.int .u8 0]) := Lib.hid (by rw [HBC.out, HHM.out rfl]; simp [bc, Lib.byteCells])
    go_wp2_with (first
      | (at_builtin; refine app_bytes _ rfl (.tmp 35) (.tmp 36) rfl w.heap.size _ N4 _ rfl (Owns.alloc (.inl HO4.out) _) (w4.heap.size + 1) _ 1 1 [_] rfl (reads_new1 _ _ _) one1 (by omega) (le_alloc z4) ?_; intro v1 W1 ho1 hb1 hr1; have HP1 := Lib.hid (hr1 (.inr (by omega))); have HQ1 := Lib.hid hb1; have hs1 := hb1.size; obtain ⟨B1, c1', rfl, _⟩ := ho1.form; clear ho1 hb1 hr1)
      | (go_at_call 42; refine (refFput_yes _ _ _ D _ (by rw [HM0.out]; exact Reads.of_own HP1.out) (by omega)).mono ?_; rintro e W3 ⟨B3, c3, rfl, ho3, hb3⟩))
    go_ret
    have hsz : w.heap.size ≤ W1.heap.size := by rw [alloc_size] at hs1; omega
    exact ⟨B3, c3, rfl, own_moreN ho3 hsz, ((HB4.out.alloc z4 _).trans HQ1.out).trans (hb3.mono hsz)⟩
  · simp only [if_true] at HBC
    go_wp2_with (first
      | (at_builtin; refine app_bytes _ rfl (.tmp 30) (.tmp 31) rfl w.heap.size _ N4 _ rfl (Owns.alloc (.inl HO4.out) _) (w4.heap.size + 1) _ 1 1 [_] rfl (reads_new1 _ _ _) one1 (by omega) (le_alloc z4) ?_; intro v1 W1 ho1 hb1 hr1; have HP1 := Lib.hid (hr1 (.inr (by omega))); have HQ1 := Lib.hid hb1; have hs1 := hb1.size; obtain ⟨B1, c1', rfl, _⟩ := ho1.form; clear ho1 hb1 hr1)
      | (at_builtin; refine app_bytes _ rfl (.tmp 32) (.tmp 33) rfl w.heap.size _ (N4 + 1) _ rfl (.inl HP1.out) w.heap.size _ n _ _ rfl ((HRW.out.alloc z4 _).below HQ1.out) (bc_one _) (by omega) (by rw [alloc_size] at hs1; omega) ?_; intro v2 W2 ho2 hb2 hr2; have HP2 := Lib.hid (hr2 (.inl HP1.out)); have HQ2 := Lib.hid hb2; have hs2 := hb2.size; obtain ⟨B2, c2, rfl, _⟩ := ho2.form; clear ho2 hb2 hr2)
      | (go_at_call 42; refine (refFput_yes _ _ _ D _ (by rw [HBC.out]; exact Reads.of_own HP2.out) (by omega)).mono ?_; rintro e W3 ⟨B3, c3, rfl, ho3, hb3⟩))
    go_ret
    have hsz : w.heap.size ≤ W2.heap.size := by rw [alloc_size] at hs1; omega
    exact ⟨B3, c3, rfl, own_moreN ho3 hsz, (((HB4.out.alloc z4 _).trans HQ1.out).trans HQ2.out).trans (hb3.mono hsz)⟩
theorem rpacket_z (w : World) (a : Nat) (s : Se) {B : Nat} {v : Value} {vs : List Value} (h : RsAt B w a v vs s) (hok : s.Ok) (z : Int) (num : Nat) (hz : z = (num : Int)) (hnum : num ≤ 4000000000000) (has : Bool) (A : Option Addr) (n c : Nat) (m : List UInt8) (hr : Reads w w.heap.size 1 A n (bc m)) (hn : n ≤ 65536) (hhas : has = false → m = []) :
    Calls Try.prog 34 #[.pointer (some ⟨a, 0, none⟩), .int .i64 z, .slice A n c, .bool has] w fun e w' =>
      ∃ u, e = .returned u ∧ OwnB w' w.heap.size u (pktL s num has m) ∧ Below w.heap.size w w' := by
  subst hz
  obtain ⟨c0, c1, _, _, c4⟩ := h.cells_
  have := hok.life; have := hok.peer; have := hok.took
  refine (rpacket_any w a s.life s.peer s.took num has A n c m h.lt c0 c1 c4 (by omega) (by omega) (by omega) hnum hr hn hhas).mono ?_
  rintro e w' ⟨B', c', h1, h2, h3⟩
  exact ⟨_, h1, Row.of_own h2, h3⟩
end Go.Proofs.Ytchhejheobceiaa
