import Derived.Test.YtlgkgmnnmlhaeaaNetI
namespace Go.Proofs.Ytlgkgmnnmlhaeaa
open Go.RowKit
set_option linter.unusedVariables false

theorem RefAt.push {B : Nat} {w2 w3 w5 : World} {a : Nat} {v v5 u : Value} {vs : List PkV} {ps : List Pk} {q : Pk} {o : Obj} {b0 : Nat} (hN : RefAt B w2 a v vs ps) (hb : Below w2.heap.size w2 w3) {f t : Int}
    (ho : w3.ownsRow b0 5 1 u q.b.length (bc q.b)) (hf : f = q.f) (ht : t = q.t) (hg : (w3.alloc o).grownBy w5 v.ownBlock) (ho5 : w5.ownsRow B 31 3 v5 (ps.length + 1) (pkCells vs ++ [.int .i64 f, .int .i64 t, u])) :
    RefAt B (w5.setCell ⟨a, 0, none⟩ v5) a v5 (vs ++ [⟨f, t, u⟩]) (ps ++ [q]) ∧ Kept (foot a v) w2 (w5.setCell ⟨a, 0, none⟩ v5) := by
  have hlt := hN.lt
  have hsz := hb.size
  have hne : some a ≠ v.ownBlock := fun e => own_apart_one hN.row hN.cell (by decide) e.symm
  have c3 : w3.heap[a]? = some (.cells #[v] 46 (0, 0)) := (hb.block a hlt).trans hN.cell
  have r3 : w3.ownsRow B 31 3 v ps.length (pkCells vs) := own_below hN.row hb (Nat.le_refl _)
  have c5 : w5.heap[a]? = some (.cells #[v] 46 (0, 0)) := (hg.block a (by rw [alloc_size]; omega) hne).trans ((Below.heap_alloc w3 o a (by omega)).trans c3)
  have K3 : Kept (foot a v) w3 (w5.setCell ⟨a, 0, none⟩ v5) := by
    have k1 : Kept (foot a v) w3 (w3.alloc o) := (Kept.refl _ _).alloc o
    have k2 : Kept (foot a v) (w3.alloc o) w5 := Kept.of_grown hg (fun b e => .inr e.symm)
    exact (k1.trans k2 (fun b _ h => h)).setCell (fun _ => .inl rfl) _
  have K2 : Kept (foot a v) w2 (w5.setCell ⟨a, 0, none⟩ v5) := (Kept.of_below hb : Kept (foot a v) w2 w3).trans K3 (fun b _ h => h)
  refine ⟨⟨hN.lo, one_setCell c5, ?_, by simp [hN.len], ?_⟩, K2⟩
  · have := ownsRow_setCell_other ho5 (a := ⟨a, 0, none⟩) (own_apart_one ho5 c5 (by decide)) v5
    simpa [pkCells, PkV.cells] using this
  · intro i x p h1 h2
    by_cases hi : i < ps.length
    · rw [List.getElem?_append_left (by rw [hN.len]; exact hi)] at h1
      rw [List.getElem?_append_left hi] at h2
      exact hN.old K2 h1 h2
    · rw [List.getElem?_append_right (by rw [hN.len]; omega), hN.len] at h1
      rw [List.getElem?_append_right (by omega)] at h2
      have hi0 : i - ps.length = 0 := by have := (List.getElem?_eq_some_iff.1 h2).1; simp at this; omega
      rw [hi0] at h1 h2
      simp at h1 h2
      subst h1 h2
      refine ⟨hf, ht, K3.own (own_moreN ho (Nat.zero_le _)) (fun g hg' hf' => ?_)⟩
      rcases hf' with rfl | hf'
      · exact own_apart_one ho c3 (by decide) hg'
      · exact own_apart ho r3 (by decide) hg' hf'

/-- The ways through the reference's question. -/
theorem may_ways (N nb : Nat) (f t : Int) (b : List UInt8) (hb : b.length = nb) (r : Bool) (hr : mayL N ⟨f, t, b⟩ = r) :
    ((200 : Int) ≤ (N : Int) ∧ r = false) ∨ (decide ((200 : Int) ≤ (N : Int)) = false ∧ ((f < 1 ∧ r = false) ∨ (decide (f < 1) = false ∧ ((5 < f ∧ r = false) ∨ (decide (5 < f) = false ∧
    ((t < 1 ∧ r = false) ∨ (decide (t < 1) = false ∧ ((5 < t ∧ r = false) ∨ (decide (5 < t) = false ∧ (((f == t) = true ∧ r = false) ∨ ((f == t) = false ∧ (((131072 : Int) < (nb : Int) ∧ r = false) ∨ (decide ((131072 : Int) < (nb : Int)) = false ∧ r = true))))))))))))) := by
  subst hb
  unfold mayL nodeL at hr
  by_cases h0 : 200 ≤ N
  · left; exact ⟨by omega, by rw [← hr]; simp; omega⟩
  right; refine ⟨by simp; omega, ?_⟩
  by_cases h1 : f < 1
  · left; exact ⟨h1, by rw [← hr]; simp; omega⟩
  right; refine ⟨by simp; omega, ?_⟩
  by_cases h2 : 5 < f
  · left; exact ⟨h2, by rw [← hr]; simp; omega⟩
  right; refine ⟨by simp; omega, ?_⟩
  by_cases h3 : t < 1
  · left; exact ⟨h3, by rw [← hr]; simp; omega⟩
  right; refine ⟨by simp; omega, ?_⟩
  by_cases h4 : 5 < t
  · left; exact ⟨h4, by rw [← hr]; simp; omega⟩
  right; refine ⟨by simp; omega, ?_⟩
  by_cases h5 : f = t
  · left; exact ⟨by simp [h5], by rw [← hr]; simp [h5]⟩
  right; refine ⟨by simp [h5], ?_⟩
  by_cases h6 : b.length ≤ 131072
  · right; exact ⟨by simp; omega, by rw [← hr]; simp [h6, h5]; omega⟩
  · left; exact ⟨by omega, by rw [← hr]; simp [h6]⟩

section
variable (B : Nat) (w : World) (a : Nat) (v : Value) (vs : List PkV) (ps : List Pk) (hN : RefAt B w a v vs ps) (hB : B ≤ w.heap.size) (hps : ps.length ≤ 200)
include hN hB hps

set_option maxRecDepth 100000 in
set_option maxHeartbeats 8000000 in
theorem rsend_any (A : Option Addr) (m c : Nat) (us : List PkV) (qs : List Pk) (hA : ∀ W, Kept (foot a v) w W → Reads W w.heap.size 3 A m (pkCells us) ∧ ∀ (i : Nat) (x : PkV) (q : Pk), us[i]? = some x → qs[i]? = some q → PkArg W w.heap.size x q) (hus : us.length = m) (hqs : qs.length = m) (hm : m ≤ 1000) :
    Calls Try.prog 17 #[.pointer (some ⟨a, 0, none⟩), .slice A m c] w fun e w' => e = .returned (.int .i64 (((sendL ps qs).length - ps.length : Nat) : Int)) ∧ RefNow B w a v (sendL ps qs) w' := by
  have HA := Lib.hid hA
  have HUS := Lib.hid hus
  have HQS := Lib.hid hqs
  have HN := Lib.hid hN
  clear hA hus hqs hN
  go_enter Try.func17, Try.ntmps17
  go_wp2
  go_loopw [5, 6] (fun s k wr => ∃ (j : Nat) (st : Nat) (v' : Value) (vs' : List PkV) (ps' : List Pk), j ≤ m ∧ s = .int .i64 st ∧ k = .int .i64 j ∧ st ≤ 200 ∧ Hid (ps' = sendL ps (qs.take j)) ∧ Hid (ps'.length = ps.length + st) ∧ Hid (RefAt B wr a v' vs' ps') ∧ Hid (Kept (foot a v) w wr) ∧ Hid (∀ g, v'.ownBlock = some g → v.ownBlock = some g ∨ w.heap.size ≤ g)) (fun _ k _ => m - (intOf k).toNat)
  case atStart => exact ⟨0, 0, v, vs, ps, Nat.zero_le _, rfl, rfl, Nat.zero_le _, Lib.hid rfl, Lib.hid rfl, HN, Lib.hid (Kept.refl _ _), Lib.hid (fun _ h => .inl h)⟩
  case round =>
    obtain ⟨j, st, v', vs', ps', hj, rfl, rfl, hst, HPS, HST, HNW, HKW, HGW⟩ := hrel
    by_cases hlt : j < m
    · have hN200 : ps'.length ≤ 200 := by rw [HPS.out]; exact (sendL_len _ _).2.2 hps
      obtain ⟨u, hu⟩ : ∃ u, us[j]? = some u := ⟨_, List.getElem?_eq_getElem (by have := HUS.out; omega)⟩
      obtain ⟨q, hq⟩ : ∃ q, qs[j]? = some q := ⟨_, List.getElem?_eq_getElem (by have := HQS.out; omega)⟩
      obtain ⟨hrA, hpk⟩ := HA.out wr HKW.out
      obtain ⟨hf, ht, Ab, cb, hv, hbl, hrb⟩ := hpk j u q hu hq
      obtain ⟨ad, rfl, hab, huc⟩ := flat_reads PkV.cells_length hrA hu hlt
      have HSU := Lib.hid (sendL_succ (ps := ps) hq)
      obtain ⟨f, t, bv⟩ := u
      obtain ⟨qf, qt, qb⟩ := q
      simp only at hf ht hv hbl hrb
      subst hf ht hv
      have HUC := Lib.hid huc
      have HRB := Lib.hid hrb
      clear hrA hpk huc hrb hu hq
      obtain ⟨Av, cv, hv, hvc, hvm, _⟩ := Owns.form (Or.inl HNW.out.row)
      subst hv
      have HVC := Lib.hid hvc
      clear hvc
      obtain ⟨N, HNN⟩ : ∃ N, Hid (ps'.length = N) := ⟨_, Lib.hid rfl⟩
      obtain ⟨nb, HNB⟩ : ∃ nb, Hid (qb.length = nb) := ⟨_, Lib.hid rfl⟩
      obtain ⟨r, HR⟩ : ∃ r, Hid (mayL N ⟨f, t, qb⟩ = r) := ⟨_, Lib.hid rfl⟩
      have hways := may_ways N nb f t qb HNB.out r HR.out
      rw [HNN.out] at HNW HVC HGW hN200
      rw [HNB.out] at HUC HRB hbl
      go_upto_region 6 with (refine wpList_load_at rfl 31 _ rfl _ rfl [.int .i64 f, .int .i64 t, .slice Ab nb cb] _ HUC.out Try.underlying31 rfl (by kernel_rfl) ?_)
      have HW1 : Hid (RefAt B (wr.alloc (.cells #[.int .i64 f, .int .i64 t, .slice Ab nb cb] 31)) a (.slice Av N cv) vs' ps' ∧ Below wr.heap.size wr (wr.alloc (.cells #[.int .i64 f, .int .i64 t, .slice Ab nb cb] 31)) ∧ (wr.alloc (.cells #[.int .i64 f, .int .i64 t, .slice Ab nb cb] 31)).rangeAt wr.heap.size 0 [.int .i64 f, .int .i64 t, .slice Ab nb cb] ∧ wr.heap.size < (wr.alloc (.cells #[.int .i64 f, .int .i64 t, .slice Ab nb cb] 31)).heap.size ∧ Kept (foot a v) w (wr.alloc (.cells #[.int .i64 f, .int .i64 t, .slice Ab nb cb] 31)) ∧ (wr.alloc (.cells #[.int .i64 f, .int .i64 t, .slice Ab nb cb] 31)).there wr.heap.size 0 3) :=
        Lib.hid ⟨HNW.out.grow ((Below.refl _ _).alloc (Nat.le_refl _) _), (Below.refl _ _).alloc (Nat.le_refl _) _, range_new wr [.int .i64 f, .int .i64 t, .slice Ab nb cb] _, by rw [alloc_size]; omega, HKW.out.alloc _, there_new wr [.int .i64 f, .int .i64 t, .slice Ab nb cb] _⟩
      have HRB1 : Hid (Reads (wr.alloc (.cells #[.int .i64 f, .int .i64 t, .slice Ab nb cb] 31)) w.heap.size 1 Ab nb (bc qb)) := Lib.hid (HRB.out.alloc HKW.out.size _)
      clear HUC HRB
      generalize (wr.alloc (.cells #[.int .i64 f, .int .i64 t, .slice Ab nb cb] 31)) = W1 at *
      have HB6 : Hid (a < wr.heap.size) := Lib.hid HNW.out.lt
      have HWR : Hid (w.heap.size ≤ wr.heap.size) := Lib.hid HKW.out.size
      obtain ⟨b6, hb6⟩ : ∃ b6, wr.heap.size = b6 := ⟨_, rfl⟩
      have HBB := Lib.hid hb6
      rw [hb6] at HW1
      simp only [hb6]
      clear hb6
      have x0 : W1.cell? ⟨b6, 0, none⟩ = some (.int .i64 f) := HW1.out.2.2.1 0 _ rfl
      have x1 : W1.cell? ⟨b6, 1, none⟩ = some (.int .i64 t) := HW1.out.2.2.1 1 _ rfl
      have x2 : W1.cell? ⟨b6, 2, none⟩ = some (.slice Ab nb cb) := HW1.out.2.2.1 2 _ rfl
      have ca : W1.cell? ⟨a, 0, none⟩ = some (.slice Av N cv) := cell_of_one HW1.out.1.cell
      rcases hways with ⟨e0, rfl⟩ | ⟨e0, ⟨e1, rfl⟩ | ⟨e1, ⟨e2, rfl⟩ | ⟨e2, ⟨e3, rfl⟩ | ⟨e3, ⟨e4, rfl⟩ | ⟨e4, ⟨e5, rfl⟩ | ⟨e5, ⟨e6, rfl⟩ | ⟨e6, rfl⟩⟩⟩⟩⟩⟩⟩
      case inr.inr.inr.inr.inr.inr.inr =>
        have hN2 : N < 200 := by have := of_decide_eq_false e0; omega
        have hnb : nb ≤ 131072 := by have := of_decide_eq_false e6; omega
        have hb6 : b6 < W1.heap.size := HW1.out.2.2.2.1
        have hws : w.heap.size ≤ W1.heap.size := HW1.out.2.2.2.2.1.size
        have hBw : B ≤ w.heap.size := hB
        have hwb : w.heap.size ≤ b6 := by rw [← HBB.out]; exact HWR.out
        have hab6 : a < b6 := by rw [← HBB.out]; exact HB6.out
        have fb : W1.frozen? ⟨b6, 2, none⟩ = false := (HW1.out.2.2.2.2.2 2 (by omega)).2
        go_upto_region 7 with (refine wpList_unguard rfl ?_)
        go_upto_region 8 with (at_builtin; refine app_bytes _ rfl (.tmp 57) (.tmp 59) rfl W1.heap.size _ 0 [] rfl (.inl (World.ownsRow_made W1 #[] 0 (Nat.le_refl _) (Nat.zero_le _) rfl)) w.heap.size _ nb _ (bc qb) rfl (HRB1.out.alloc hws _) (bc_one _) (by omega) (le_alloc (Nat.le_refl _)) ?_; intro v4 w4 ho4 hb4 hr4; have HO4 := Lib.hid (hr4 (.inl (World.ownsRow_made W1 #[] 0 (Nat.le_refl _) (Nat.zero_le _) rfl))); obtain ⟨A4, c4, rfl, hc4, hm4, _⟩ := ho4.form; have HB4 := Lib.hid hb4; have HC4 := Lib.hid hc4; have y2 : w4.cell? ⟨b6, 2, none⟩ = some (.slice Ab nb cb) := (hb4.cell (p := ⟨b6, 2, none⟩) hb6).trans ((World.cell?_alloc_lt _ _ _ hb6).trans x2); have fy : w4.frozen? ⟨b6, 2, none⟩ = false := (hb4.frozen (p := ⟨b6, 2, none⟩) hb6).trans ((World.frozen?_alloc_past _ _ _ hb6).trans fb); clear ho4 hb4 hr4 hc4)
        have HB4 : Hid (Below W1.heap.size W1 w4) := Lib.hid (((Below.refl _ _).alloc (Nat.le_refl _) _).trans HB4.out)
        have HO4 : Hid (w4.ownsRow W1.heap.size 5 1 (.slice A4 nb c4) nb (bc qb)) := Lib.hid (by have := HO4.out; simpa using this)
        have HLT4 : Hid (∀ g, (Value.slice A4 nb c4).ownBlock = some g → W1.heap.size ≤ g ∧ g < w4.heap.size) := Lib.hid HO4.out.lt
        have hne4 : (Value.slice A4 nb c4).ownBlock ≠ some b6 := fun e => by have := (HLT4.out _ e).1; omega
        have HW5 : Hid (Below b6 wr (w4.setCell ⟨b6, 2, none⟩ (.slice A4 nb c4)) ∧ (w4.setCell ⟨b6, 2, none⟩ (.slice A4 nb c4)).rangeAt b6 0 [.int .i64 f, .int .i64 t, .slice A4 nb c4] ∧ (w4.setCell ⟨b6, 2, none⟩ (.slice A4 nb c4)).ownsRow W1.heap.size 5 1 (.slice A4 nb c4) nb (bc qb) ∧ b6 < (w4.setCell ⟨b6, 2, none⟩ (.slice A4 nb c4)).heap.size) := Lib.hid
          ⟨(HW1.out.2.1.trans (HB4.out.mono (by omega))).setCell (p := ⟨b6, 2, none⟩) (Nat.le_refl _) _, range_setCell (o := 0) (j := 2) (range_below_at HW1.out.2.2.1 HB4.out hb6) _, ownsRow_setCell_other HO4.out hne4 _, by have := HB4.out.size; simp only [World.size_setCell]; omega⟩
        clear HO4 HB4 HLT4 hne4 y2 fy x0 x1 x2 ca fb
        generalize (w4.setCell ⟨b6, 2, none⟩ (.slice A4 nb c4)) = W5 at *
        have HN5 : Hid (RefAt B W5 a (.slice Av N cv) vs' ps') := Lib.hid (HNW.out.grow (by rw [HBB.out]; exact HW5.out.1))
        have HR5 : Hid (W5.drew.ownsRow B 31 3 (.slice Av N cv) N (pkCells vs')) := Lib.hid (by have := HN5.out.row; rw [HNN.out] at this; exact this)
        have x0 : W5.cell? ⟨b6, 0, none⟩ = some (.int .i64 f) := HW5.out.2.1 0 _ rfl
        have x1 : W5.cell? ⟨b6, 1, none⟩ = some (.int .i64 t) := HW5.out.2.1 1 _ rfl
        have x2 : W5.cell? ⟨b6, 2, none⟩ = some (.slice A4 nb c4) := HW5.out.2.1 2 _ rfl
        have ca : W5.cell? ⟨a, 0, none⟩ = some (.slice Av N cv) := cell_of_one HN5.out.cell
        have fa : W5.frozen? ⟨a, 0, none⟩ = false := free_of_one HN5.out.cell
        have hal : a < W5.heap.size := HN5.out.lt
        have hb65 : b6 < W5.heap.size := HW5.out.2.2.2
        have HNE : Hid (some a ≠ (Value.slice Av N cv).ownBlock) := Lib.hid fun e => own_apart_one HN5.out.row HN5.out.cell (by decide) e.symm
        have HFIN : Hid (∀ v6 w6, w6.ownsRow B 31 3 v6 (N + 1) (pkCells vs' ++ [.int .i64 f, .int .i64 t, .slice A4 nb c4]) → (W5.drew.alloc (.cells #[.int .i64 f, .int .i64 t, .slice A4 nb c4] 31)).grownBy w6 (Value.slice Av N cv).ownBlock → (∀ g, v6.ownBlock = some g → (Value.slice Av N cv).ownBlock = some g ∨ (W5.drew.alloc (.cells #[.int .i64 f, .int .i64 t, .slice A4 nb c4] 31)).heap.size ≤ g) →
            RefAt B (w6.setCell ⟨a, 0, none⟩ v6) a v6 (vs' ++ [⟨f, t, .slice A4 nb c4⟩]) (ps' ++ [⟨f, t, qb⟩]) ∧ Kept (foot a v) w (w6.setCell ⟨a, 0, none⟩ v6) ∧ ∀ g, v6.ownBlock = some g → v.ownBlock = some g ∨ w.heap.size ≤ g) := Lib.hid (by
          intro v6 w6 g1 g2 g3
          have g1' : w6.ownsRow B 31 3 v6 (ps'.length + 1) (pkCells vs' ++ [.int .i64 f, .int .i64 t, .slice A4 nb c4]) := by rw [HNN.out]; exact g1
          have o5 : W5.drew.ownsRow W1.heap.size 5 1 (.slice A4 nb c4) (⟨f, t, qb⟩ : Pk).b.length (bc (⟨f, t, qb⟩ : Pk).b) := by simp only; rw [HNB.out]; exact HW5.out.2.2.1
          have b5 : Below wr.heap.size wr W5.drew := by rw [HBB.out]; exact HW5.out.1.drew
          obtain ⟨P1, P2⟩ := RefAt.push HNW.out b5 o5 rfl rfl g2 g1'
          refine ⟨P1, HKW.out.trans P2 (fun b hb h => h.elim .inl (fun h => (HGW.out b h).elim .inr (fun h => by omega))), fun g hg => ?_⟩
          rcases g3 g hg with h | h
          · exact HGW.out g h
          · right
            have hd : W5.drew.heap.size = W5.heap.size := rfl
            rw [alloc_size] at h; omega)
        have hB5 : B ≤ (W5.drew.alloc (.cells #[.int .i64 f, .int .i64 t, .slice A4 nb c4] 31)).heap.size := by rw [alloc_size]; have hd : W5.drew.heap.size = W5.heap.size := rfl; omega
        go_region_law (refine step_app_pk _ rfl (.tmp 66) (.tmp 68) rfl B _ N (pkCells vs') rfl (HR5.out.kept (World.grownBy_alloc W5.drew _ none) (own_or _)) _ _ 1 _ [.int .i64 f, .int .i64 t, .slice A4 nb c4] rfl (reads_newS W5.drew [.int .i64 f, .int .i64 t, .slice A4 nb c4] _ 3 1 rfl) (by omega) (pk3_one _ _ _ _ _) (by omega) hB5 ?_; intro v6 w6 ho6 hg6 hgr6; have HGR6 := Lib.hid hgr6; obtain ⟨A6, c6, rfl, hc6, hm6, _⟩ := Owns.form (Or.inl ho6); have HO6 := Lib.hid ho6; have HG6 := Lib.hid hg6; have ca6 : w6.cell? ⟨a, 0, none⟩ = some (.slice Av N cv) := hg6.cell (a := ⟨a, 0, none⟩) (((World.cell?_alloc_lt _ _ _ hal).trans ca)) HNE.out; have fa6 : w6.frozen? ⟨a, 0, none⟩ = false := (World.frozen?_of_block (a := ⟨a, 0, none⟩) (hg6.block a (Nat.lt_of_lt_of_eq (Nat.lt_succ_of_lt hal) (alloc_size W5 _).symm) HNE.out)).trans ((World.frozen?_alloc_past _ _ _ hal).trans fa); clear ho6 hg6 hc6 hgr6)
        all_goals go_wp2
        all_goals go_roundw
        all_goals first | (simp [intOf]; omega; done) | skip
        all_goals
          have hst' := HST.out
          obtain ⟨P1, P2, P3⟩ := HFIN.out _ _ HO6.out HG6.out HGR6.out
          have hps2 := HSU.out
          rw [← HPS.out, HNN.out, HR.out, if_pos rfl] at hps2
          exact ⟨j + 1, st + 1, _, _, ps' ++ [⟨f, t, qb⟩], by omega, by go_num, by go_num, by have := HNN.out; omega, Lib.hid hps2.symm, Lib.hid (by simp; omega), Lib.hid P1, Lib.hid P2, Lib.hid P3⟩
      all_goals
        go_wp2_with (refine wpList_unguard rfl ?_)
        go_roundw
        case rel =>
          have hps2 := HSU.out
          rw [← HPS.out, HNN.out, HR.out] at hps2
          refine ⟨j + 1, st, _, vs', ps', by omega, rfl, by go_num, hst, Lib.hid ?_, HST, Lib.hid HW1.out.1, Lib.hid HW1.out.2.2.2.2.1, HGW⟩
          rw [hps2]; rfl
        case measure => simp [intOf]; omega
    · obtain rfl : m = j := by omega
      have HE : Hid (ps' = sendL ps qs ∧ st = (sendL ps qs).length - ps.length) := Lib.hid (by
        have h1 := HPS.out
        rw [List.take_of_length_le (by have := HQS.out; omega)] at h1
        have h2 := HST.out
        refine ⟨h1, ?_⟩
        rw [← h1]; omega)
      go_wp2
      go_ret
      refine ⟨ret_int (by rw [HE.out.2]), v', vs', ?_, HKW.out, HGW.out⟩
      rw [← HE.out.1]; exact HNW.out
end
end Go.Proofs.Ytlgkgmnnmlhaeaa
