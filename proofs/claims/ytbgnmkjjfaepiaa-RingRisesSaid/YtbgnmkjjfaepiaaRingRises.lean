import Derived.Test.YtbgnmkjjfaepiaaMerge
import Derived.Test.YtbgnmkjjfaepiaaRingAwake
import Derived.Test.YtbgnmkjjfaepiaaRingFrame
namespace Go.Proofs.Ytbgnmkjjfaepiaa
open Go.RowKit
set_option linter.unusedVariables false

/-- A row of so many is handed back. -/
def RetRsN (w : World) (l : List Rg) (n : Nat) (e : Ending) (w' : World) : Prop :=
  ∃ A c, e = .returned (.slice A n c) ∧ n ≤ c ∧ c ≤ maxLen ∧ Reads w' w'.heap.size 4 A n (rowCells l) ∧ Below w.heap.size w w'
theorem RetRs.n {w : World} {l : List Rg} {n : Nat} {e : Ending} {w' : World} (hl : l.length = n) (h : RetRs w l e w') : RetRsN w l n e w' := by
  subst hl; exact h
theorem sound_wf {l : List Rg} (h : soundL l = true) : ∀ r ∈ l, r.wf := by
  intro r hr
  obtain ⟨h1, h2, h3, h4, h5⟩ := sg_mem (sound_parts h).1 r hr
  have ho : 1 ≤ r.c ∧ r.c ≤ 5 ∧ 1 ≤ r.d ∧ r.d ≤ 1099511627776 := by simp [ownedL] at h5; omega
  unfold Rg.wf
  omega

section
variable (w : World) (A1 : Option Addr) (n1 c1 : Nat) (l : List Rg) (hr1 : Reads w w.heap.size 4 A1 n1 (rowCells l)) (hw1 : ∀ r ∈ l, r.wf) (hl1 : l.length = n1) (hn1 : n1 ≤ maxLen)
  (A2 : Option Addr) (n2 c2 : Nat) (m : List Rg) (hr2 : Reads w w.heap.size 4 A2 n2 (rowCells m)) (hw2 : ∀ r ∈ m, r.wf) (hl2 : m.length = n2) (hn2 : n2 ≤ maxLen) (self : Int) (hsh : Int)
include hr1 hw1 hl1 hn1 hr2 hw2 hl2 hn2

set_option maxRecDepth 100000 in
set_option maxHeartbeats 8000000 in
theorem ringRises_big (h1 : n1 ≤ 80) (h2 : n2 ≤ 80) (sl : soundL l = true) (sm : soundL m = true) (hh0 : 0 ≤ hsh) (hh1 : hsh ≤ 4294967295) :
    Calls Try.prog 8 #[.slice A1 n1 c1, .slice A2 n2 c2, .int .i64 self, .int .i64 hsh] w (RetTrue w) := by
  have HSM1 : Hid (∀ W, Calls Try.prog 10 #[.slice A1 n1 c1] W fun e w' => e = .returned (.bool (decide (n1 ≤ 80))) ∧ W = w') := Lib.hid fun W => small_any W A1 n1 c1 hn1
  have HSM2 : Hid (∀ W, Calls Try.prog 10 #[.slice A2 n2 c2] W fun e w' => e = .returned (.bool (decide (n2 ≤ 80))) ∧ W = w') := Lib.hid fun W => small_any W A2 n2 c2 hn2
  have h1d : decide (n1 ≤ 80) = true := by simpa using h1
  have h2d : decide (n2 ≤ 80) = true := by simpa using h2
  have HS1 : Hid (∀ W, Below w.heap.size w W → Calls Try.prog 19 #[.slice A1 n1 c1] W (RetB W true)) := Lib.hid fun W hb => by
    have := sound_any W A1 n1 c1 l ((hr1.below hb).more hb.size) hw1 hl1 hn1; rwa [sl] at this
  have HS2 : Hid (∀ W, Below w.heap.size w W → Calls Try.prog 19 #[.slice A2 n2 c2] W (RetB W true)) := Lib.hid fun W hb => by
    have := sound_any W A2 n2 c2 m ((hr2.below hb).more hb.size) hw2 hl2 hn2; rwa [sm] at this
  have HM1 : Hid (∀ W, Below w.heap.size w W → Calls Try.prog 23 #[.slice A1 n1 c1, .slice A2 n2 c2, .int .i64 self] W (RetRsN W (mergeR l m self) (mergeR l m self).length)) :=
    Lib.hid fun W hb => (merge_any W A1 A2 n1 c1 n2 c2 l m self ((hr1.below hb).more hb.size) hw1 hl1 (by omega) ((hr2.below hb).more hb.size) hw2 hl2 (by omega)).mono fun _ _ h => h.n rfl
  have HM2 : Hid (∀ W, Below w.heap.size w W → Calls Try.prog 23 #[.slice A1 n1 c1, .slice A1 n1 c1, .int .i64 self] W (RetRsN W l n1)) :=
    Lib.hid fun W hb => by
      have := merge_any W A1 A1 n1 c1 n1 c1 l l self ((hr1.below hb).more hb.size) hw1 hl1 (by omega) ((hr1.below hb).more hb.size) hw1 hl1 (by omega)
      rw [merge_self] at this; exact this.mono fun _ _ h => h.n hl1
  have HM3 : Hid (∀ W, Below w.heap.size w W → Calls Try.prog 23 #[.slice A1 n1 c1, .slice none 0 0, .int .i64 self] W (RetRsN W l n1)) :=
    Lib.hid fun W hb => by
      have := merge_any W A1 none n1 c1 0 0 l [] self ((hr1.below hb).more hb.size) hw1 hl1 (by omega) Reads.none_ (by simp) rfl (by omega)
      rw [merge_nil] at this; exact this.mono fun _ _ h => h.n hl1
  obtain ⟨x, y, z, fx, fy, fz, hxyz⟩ := merge_find (self := self) sl sm hh0 hh1
  have so := merge_sound (m := m) (self := self) sl
  have HRA := Lib.hid hr1
  obtain ⟨o, HO⟩ : ∃ o, Hid (mergeR l m self = o) := ⟨_, Lib.hid rfl⟩
  rw [HO.out] at HM1 fz so
  obtain ⟨xa, xb, xc, xd⟩ := x
  obtain ⟨ya, yb, yc, yd⟩ := y
  obtain ⟨za, zb, zc, zd⟩ := z
  have HF1 : Hid (∀ W, Below w.heap.size w W → Calls Try.prog 14 #[.slice A1 n1 c1, .int .i64 hsh] W fun e w' => e = .returned (.tuple #[.agg #[.int .i64 xa, .int .i64 xb, .int .i64 xc, .int .i64 xd], .bool true]) ∧ Below W.heap.size W w') :=
    Lib.hid fun W hb => by
      have := find_any W A1 n1 c1 l hsh ((hr1.below hb).more hb.size) hw1 hl1 hn1
      unfold RetF at this; rw [fx] at this; exact this
  have HF2 : Hid (∀ W, Below w.heap.size w W → Calls Try.prog 14 #[.slice A2 n2 c2, .int .i64 hsh] W fun e w' => e = .returned (.tuple #[.agg #[.int .i64 ya, .int .i64 yb, .int .i64 yc, .int .i64 yd], .bool true]) ∧ Below W.heap.size W w') :=
    Lib.hid fun W hb => by
      have := find_any W A2 n2 c2 m hsh ((hr2.below hb).more hb.size) hw2 hl2 hn2
      unfold RetF at this; rw [fy] at this; exact this
  have HF3 : Hid (∀ W A c, Reads W W.heap.size 4 A o.length (rowCells o) → Calls Try.prog 14 #[.slice A o.length c, .int .i64 hsh] W fun e w' => e = .returned (.tuple #[.agg #[.int .i64 za, .int .i64 zb, .int .i64 zc, .int .i64 zd], .bool true]) ∧ Below W.heap.size W w') :=
    Lib.hid fun W A c hr => by
      have := find_any W A o.length c o hsh hr (sound_wf so) rfl (by have := (sound_parts so).2; simp [maxLen]; omega)
      unfold RetF at this; rw [fz] at this; exact this
  have HS3 : Hid (∀ W A c, Reads W W.heap.size 4 A o.length (rowCells o) → Calls Try.prog 19 #[.slice A o.length c] W (RetB W true)) := Lib.hid fun W A c hr => by
    have := sound_any W A o.length c o hr (sound_wf so) rfl (by have := (sound_parts so).2; simp [maxLen]; omega); rwa [so] at this
  have HL1 := Lib.hid hl1
  simp only at hxyz
  have hfacts : (decide (zd < xd) = false) ∧ (((xc == self) = true ∧ (zc != self) = false ∧ (zc == self) = true ∧ (xc != self) = false) ∨ ((xc == self) = false ∧ (zc == self) = false)) ∧ ((zd != xd) = false ∨ ((zd != xd) = true ∧ (zd != yd) = false)) := by
    rcases hxyz with ⟨e1, e2⟩ | ⟨e1, e2, e3⟩
    · subst e1 e2
      refine ⟨by simp, ?_, .inl (by simp)⟩
      by_cases t : zc = self
      · left; simp [t]
      · right; simp [t]
    · subst e1 e2
      simp only [takeB, Bool.and_eq_true, decide_eq_true_eq] at e3
      obtain ⟨⟨t1, t2⟩, t3⟩ := e3
      refine ⟨by simp; omega, .inr ⟨by simpa using t1, by simpa using t2⟩, .inr ⟨by simp; omega, by simp⟩⟩
  clear hr1 hw1 hl1 hr2 hw2 hl2 sl sm so fx fy fz hxyz h1 h2
  obtain ⟨t1, t2, t3⟩ := hfacts
  have HOL : Hid (∃ q, o.length = q) := Lib.hid ⟨_, rfl⟩
  generalize o.length = ol at *
  go_enter Try.func8, Try.ntmps8
  go_upto_region 4 with (first
    | (refine wpList_unguard rfl ?_)
    | (go_at_call 10; ((with_reducible refine (HSM1.out _).mono ?_); rintro e w' ⟨rfl, rfl⟩))
    | (go_at_call 10; ((with_reducible refine (HSM2.out _).mono ?_); rintro e w' ⟨rfl, rfl⟩))
    | (go_at_call 19; ((with_reducible refine (HS1.out _ (Below.refl _ _)).mono ?_); rintro e w1 ⟨rfl, hb1⟩))
    | (go_at_call 19; ((with_reducible refine (HS2.out _ hb1).mono ?_); rintro e w2 ⟨rfl, hb2⟩; have HB2 := Lib.hid (hb1.trans (hb2.mono hb1.size))))
    | (go_at_call 23; ((with_reducible refine (HM1.out _ HB2.out).mono ?_); rintro e w3 ⟨A3, c3, rfl, hc3, hm3, hr3, hb3⟩; have HR3 := Lib.hid hr3; have HB3 := Lib.hid (HB2.out.trans (hb3.mono HB2.out.size)))))
  clear hb1 hb2 hb3 hr3
  go_upto_region 5 with (go_at_call 14; ((with_reducible refine (HF1.out _ HB3.out).mono ?_); rintro e w4 ⟨rfl, hb4⟩))
  have H4 : Hid (Below w3.heap.size w3 (w4.alloc (.cells #[.int .i64 xa, .int .i64 xb, .int .i64 xc, .int .i64 xd] 31)) ∧
      (w4.alloc (.cells #[.int .i64 xa, .int .i64 xb, .int .i64 xc, .int .i64 xd] 31)).rangeAt w4.heap.size 0 (Rg.cells ⟨xa, xb, xc, xd⟩) ∧ w4.heap.size < (w4.alloc (.cells #[.int .i64 xa, .int .i64 xb, .int .i64 xc, .int .i64 xd] 31)).heap.size) :=
    Lib.hid ⟨hb4.alloc hb4.size _, range_new w4 (Rg.cells ⟨xa, xb, xc, xd⟩) _, by rw [alloc_size]; omega⟩
  clear hb4
  generalize (w4.alloc (.cells #[.int .i64 xa, .int .i64 xb, .int .i64 xc, .int .i64 xd] 31)) = W4 at *
  generalize w4.heap.size = b4 at *
  have K4 : Hid (Below w.heap.size w W4) := Lib.hid (HB3.out.trans (H4.out.1.mono HB3.out.size))
  go_upto_region 6 with (go_at_call 14; ((with_reducible refine (HF2.out _ K4.out).mono ?_); rintro e w5 ⟨rfl, hb5⟩))
  have H5 : Hid (Below W4.heap.size W4 (w5.alloc (.cells #[.int .i64 ya, .int .i64 yb, .int .i64 yc, .int .i64 yd] 31)) ∧
      (w5.alloc (.cells #[.int .i64 ya, .int .i64 yb, .int .i64 yc, .int .i64 yd] 31)).rangeAt w5.heap.size 0 (Rg.cells ⟨ya, yb, yc, yd⟩) ∧ w5.heap.size < (w5.alloc (.cells #[.int .i64 ya, .int .i64 yb, .int .i64 yc, .int .i64 yd] 31)).heap.size) :=
    Lib.hid ⟨hb5.alloc hb5.size _, range_new w5 (Rg.cells ⟨ya, yb, yc, yd⟩) _, by rw [alloc_size]; omega⟩
  clear hb5
  generalize (w5.alloc (.cells #[.int .i64 ya, .int .i64 yb, .int .i64 yc, .int .i64 yd] 31)) = W5 at *
  generalize w5.heap.size = b5 at *
  have K5 : Hid (Below w3.heap.size w3 W5) := Lib.hid (H4.out.1.trans (H5.out.1.mono H4.out.1.size))
  have R5 : Hid (Reads W5 W5.heap.size 4 A3 ol (rowCells o)) := Lib.hid ((HR3.out.below K5.out).more K5.out.size)
  go_upto_region 7 with (go_at_call 14; ((with_reducible refine (HF3.out _ _ _ R5.out).mono ?_); rintro e w6 ⟨rfl, hb6⟩))
  have H6 : Hid (Below W5.heap.size W5 (w6.alloc (.cells #[.int .i64 za, .int .i64 zb, .int .i64 zc, .int .i64 zd] 31)) ∧
      (w6.alloc (.cells #[.int .i64 za, .int .i64 zb, .int .i64 zc, .int .i64 zd] 31)).rangeAt w6.heap.size 0 (Rg.cells ⟨za, zb, zc, zd⟩) ∧ w6.heap.size < (w6.alloc (.cells #[.int .i64 za, .int .i64 zb, .int .i64 zc, .int .i64 zd] 31)).heap.size) :=
    Lib.hid ⟨hb6.alloc hb6.size _, range_new w6 (Rg.cells ⟨za, zb, zc, zd⟩) _, by rw [alloc_size]; omega⟩
  clear hb6
  generalize (w6.alloc (.cells #[.int .i64 za, .int .i64 zb, .int .i64 zc, .int .i64 zd] 31)) = W6 at *
  generalize w6.heap.size = b6 at *
  have R6 : Hid (Reads W6 W6.heap.size 4 A3 ol (rowCells o)) := Lib.hid ((R5.out.below H6.out.1).more H6.out.1.size)
  have K6 : Hid (Below w.heap.size w W6) := Lib.hid (HB3.out.trans ((K5.out.trans (H6.out.1.mono K5.out.size)).mono HB3.out.size))
  have RX6 : Hid (W6.rangeAt b4 0 (Rg.cells ⟨xa, xb, xc, xd⟩) ∧ W6.rangeAt b5 0 (Rg.cells ⟨ya, yb, yc, yd⟩) ∧ b4 < W6.heap.size ∧ b5 < W6.heap.size) := Lib.hid (by
    have a1 := range_below_at H4.out.2.1 H5.out.1 H4.out.2.2
    have a2 : b4 < W5.heap.size := by have := H4.out.2.2; have := H5.out.1.size; omega
    have a3 := H5.out.2.2
    have a4 := H6.out.1.size
    exact ⟨range_below_at a1 H6.out.1 a2, range_below_at H5.out.2.1 H6.out.1 a3, by omega, by omega⟩)
  have X6 : ∀ W, Below W6.heap.size W6 W → Hid (W.cell? ⟨b4, 2, none⟩ = some (.int .i64 xc) ∧ W.cell? ⟨b4, 3, none⟩ = some (.int .i64 xd) ∧ W.cell? ⟨b5, 3, none⟩ = some (.int .i64 yd) ∧ W.cell? ⟨b6, 2, none⟩ = some (.int .i64 zc) ∧ W.cell? ⟨b6, 3, none⟩ = some (.int .i64 zd)) := fun W hb => Lib.hid
    ⟨range_below_at RX6.out.1 hb RX6.out.2.2.1 2 _ rfl, range_below_at RX6.out.1 hb RX6.out.2.2.1 3 _ rfl, range_below_at RX6.out.2.1 hb RX6.out.2.2.2 3 _ rfl, range_below_at H6.out.2.1 hb H6.out.2.2 2 _ rfl, range_below_at H6.out.2.1 hb H6.out.2.2 3 _ rfl⟩
  have HX6 := Lib.hid X6
  clear X6
  rcases t2 with ⟨s1, s2, s3, s4⟩ | ⟨s1, s3⟩
  all_goals rcases t3 with u1 | ⟨u1, u2⟩
  all_goals
    go_wp2_with (first
      | (refine wpList_unguard rfl ?_)
      | (go_at_call 19; ((with_reducible refine (HS3.out _ _ _ R6.out).mono ?_); rintro e w7 ⟨rfl, hb7⟩; obtain ⟨c1', c2', c3', c4', c5'⟩ := (HX6.out _ hb7).out; have K7 := Lib.hid (K6.out.trans (hb7.mono K6.out.size))))
      | (go_at_call 23; ((with_reducible refine (HM2.out _ K7.out).mono ?_); rintro e w8 ⟨A8, c8, rfl, hc8, hm8, hr8, hb8⟩; have HC8 := Lib.hid hc8; have HR8 := Lib.hid hr8; have K8 := Lib.hid (K7.out.trans (hb8.mono K7.out.size)); clear hc8 hr8 hb8))
      | (go_at_call 23; ((with_reducible refine (HM3.out _ (below_drewN K8.out _)).mono ?_); rintro e w9 ⟨A9, c9, rfl, hc9, hm9, hr9, hb9⟩; have HC9 := Lib.hid hc9; have HR9 := Lib.hid hr9; have K9 := Lib.hid ((below_drewN K8.out _).trans (hb9.mono K8.out.size)); clear hc9 hr9 hb9))
      | (go_at_call 18; ((with_reducible refine (same_any w8 A8 A1 n1 c8 c1 _ _ l HR8.out (HRA.out.below K8.out) HL1.out hn1).mono ?_); rintro e w' ⟨rfl, m1, rfl⟩))
      | (go_at_call 18; ((with_reducible refine (same_any w9 A9 A1 n1 c9 c1 _ _ l HR9.out (HRA.out.below K9.out) HL1.out hn1).mono ?_); rintro e w' ⟨rfl, m2, rfl⟩))
      | (go_at_call 11; ((with_reducible refine (awake_any _).mono ?_); rintro e w' ⟨rfl, hb⟩)))
    go_ret
    exact RetTrue.from (below_drewN K9.out _) ⟨rfl, hb⟩

set_option maxRecDepth 100000 in
set_option maxHeartbeats 8000000 in
theorem ringRises_small (hcase : (decide (n1 ≤ 80) = false) ∨ (decide (n1 ≤ 80) = true ∧ decide (n2 ≤ 80) = false) ∨ (decide (n1 ≤ 80) = true ∧ decide (n2 ≤ 80) = true ∧ (soundL l = false ∨ (soundL l = true ∧ (soundL m = false ∨ (soundL m = true ∧ ((hsh < 0) ∨ (decide (hsh < 0) = false ∧ 4294967295 < hsh)))))))) :
    Calls Try.prog 8 #[.slice A1 n1 c1, .slice A2 n2 c2, .int .i64 self, .int .i64 hsh] w (RetTrue w) := by
  have HSM1 : Hid (∀ W, Calls Try.prog 10 #[.slice A1 n1 c1] W fun e w' => e = .returned (.bool (decide (n1 ≤ 80))) ∧ W = w') := Lib.hid fun W => small_any W A1 n1 c1 hn1
  have HSM2 : Hid (∀ W, Calls Try.prog 10 #[.slice A2 n2 c2] W fun e w' => e = .returned (.bool (decide (n2 ≤ 80))) ∧ W = w') := Lib.hid fun W => small_any W A2 n2 c2 hn2
  obtain ⟨q1, hq1⟩ : ∃ q, soundL l = q := ⟨_, rfl⟩
  obtain ⟨q2, hq2⟩ : ∃ q, soundL m = q := ⟨_, rfl⟩
  have HS1 : Hid (∀ W, Below w.heap.size w W → Calls Try.prog 19 #[.slice A1 n1 c1] W (RetB W q1)) := Lib.hid fun W hb => by
    have := sound_any W A1 n1 c1 l ((hr1.below hb).more hb.size) hw1 hl1 hn1; rwa [hq1] at this
  have HS2 : Hid (∀ W, Below w.heap.size w W → Calls Try.prog 19 #[.slice A2 n2 c2] W (RetB W q2)) := Lib.hid fun W hb => by
    have := sound_any W A2 n2 c2 m ((hr2.below hb).more hb.size) hw2 hl2 hn2; rwa [hq2] at this
  rw [hq1, hq2] at hcase
  clear hr1 hw1 hl1 hr2 hw2 hl2 hq1 hq2
  rcases hcase with h1 | ⟨h1, h2⟩ | ⟨h1, h2, rfl | ⟨rfl, rfl | ⟨rfl, h3 | ⟨h3, h4⟩⟩⟩⟩
  all_goals
    go_enter Try.func8, Try.ntmps8
    go_wp2_with (first
      | (refine wpList_unguard rfl ?_)
      | (go_at_call 10; ((with_reducible refine (HSM1.out _).mono ?_); rintro e w' ⟨rfl, rfl⟩))
      | (go_at_call 10; ((with_reducible refine (HSM2.out _).mono ?_); rintro e w' ⟨rfl, rfl⟩))
      | (go_at_call 19; ((with_reducible refine (HS1.out _ (Below.refl _ _)).mono ?_); rintro e w1 ⟨rfl, hb1⟩))
      | (go_at_call 19; ((with_reducible refine (HS2.out _ hb1).mono ?_); rintro e w2 ⟨rfl, hb2⟩; have HB2 := Lib.hid (hb1.trans (hb2.mono hb1.size))))
      | (go_at_call 11; ((with_reducible refine (awake_any _).mono ?_); rintro e w' ⟨rfl, hb⟩)))
    go_ret
    first
      | exact ⟨rfl, hb⟩
      | exact RetTrue.from hb1 ⟨rfl, hb⟩
      | exact RetTrue.from HB2.out ⟨rfl, hb⟩
end

theorem ringRises_walk (w : World) (A1 : Option Addr) (n1 c1 : Nat) (l : List Rg) (hr1 : Reads w w.heap.size 4 A1 n1 (rowCells l)) (hw1 : ∀ r ∈ l, r.wf) (hl1 : l.length = n1) (hnc1 : n1 ≤ c1) (hm1 : c1 ≤ maxLen)
    (A2 : Option Addr) (n2 c2 : Nat) (m : List Rg) (hr2 : Reads w w.heap.size 4 A2 n2 (rowCells m)) (hw2 : ∀ r ∈ m, r.wf) (hl2 : m.length = n2) (hnc2 : n2 ≤ c2) (hm2 : c2 ≤ maxLen) (self : Int) (w1 : (Lit.int .i64 self).wf = true) (hsh : Int) (w2 : (Lit.int .i64 hsh).wf = true) :
    Calls Try.prog 8 #[.slice A1 n1 c1, .slice A2 n2 c2, .int .i64 self, .int .i64 hsh] w (RetTrue w) := by
  have hn1 : n1 ≤ maxLen := Nat.le_trans hnc1 hm1
  have hn2 : n2 ≤ maxLen := Nat.le_trans hnc2 hm2
  have sm := ringRises_small w A1 n1 c1 l hr1 hw1 hl1 hn1 A2 n2 c2 m hr2 hw2 hl2 hn2 self hsh
  by_cases h1 : n1 ≤ 80
  · by_cases h2 : n2 ≤ 80
    · cases sl : soundL l
      · exact sm (.inr (.inr ⟨by simpa using h1, by simpa using h2, .inl sl⟩))
      · cases sm' : soundL m
        · exact sm (.inr (.inr ⟨by simpa using h1, by simpa using h2, .inr ⟨sl, .inl sm'⟩⟩))
        · by_cases h3 : hsh < 0
          · exact sm (.inr (.inr ⟨by simpa using h1, by simpa using h2, .inr ⟨sl, .inr ⟨sm', .inl h3⟩⟩⟩))
          · by_cases h4 : 4294967295 < hsh
            · exact sm (.inr (.inr ⟨by simpa using h1, by simpa using h2, .inr ⟨sl, .inr ⟨sm', .inr ⟨by simpa using h3, h4⟩⟩⟩⟩))
            · exact ringRises_big w A1 n1 c1 l hr1 hw1 hl1 hn1 A2 n2 c2 m hr2 hw2 hl2 hn2 self hsh h1 h2 sl sm' (by omega) (by omega)
    · exact sm (.inr (.inl ⟨by simpa using h1, by simpa using h2⟩))
  · exact sm (.inl (by simpa using h1))
end Go.Proofs.Ytbgnmkjjfaepiaa
