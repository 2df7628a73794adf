/- The walks of frame.Next and the reference's Next: the frame that bytes begin with, or that it is torn, or bad. No condition. -/
import Derived.Test.YtchhejheobceiaaNextPlain
import Derived.Test.YtchhejheobceiaaClone
namespace Go.Proofs.Ytchhejheobceiaa
open Go.RowKit
set_option linter.unusedVariables false

/-- What Next hands back: a fresh row, a count, a kind. -/
def RetNext (B : Nat) (w : World) (l : List UInt8) (e : Ending) (w' : World) : Prop :=
  ∃ A c, e = .returned (.tuple #[.slice A (nextL l).1.length c, .int .i64 (nextL l).2.1, .int .i64 (nextL l).2.2]) ∧ w'.ownsRow B 5 1 (.slice A (nextL l).1.length c) (nextL l).1.length (bc (nextL l).1) ∧ Below B w w'
theorem below_drewN' {B : Nat} {a w : World} (h : Below B a w) (n : Nat) : Below B a (w.drewN n) := ⟨h.os, h.tape, h.output, h.size, h.block⟩
theorem ret_next_no {B : Nat} {w w' : World} {l : List UInt8} {k : Nat} {z : Int} (h : nextL l = ([], 0, k)) (hz : z = k) (hb : Below B w w') :
    RetNext B w l (.returned (.tuple #[.slice none 0 0, .int .i64 0, .int .i64 z])) w' := by
  unfold RetNext
  rw [h]
  subst hz
  exact ⟨none, 0, rfl, World.ownsRow_nil _ _ _ _, hb⟩
theorem ret_next {B : Nat} {w w' : World} {l p : List UInt8} {A : Option Addr} {c m : Nat} {y z : Int} (h : nextL l = (p, m, 1)) (hy : y = m) (hz : z = 1)
    (ho : w'.ownsRow B 5 1 (.slice A p.length c) p.length (bc p)) (hb : Below B w w') :
    RetNext B w l (.returned (.tuple #[.slice A p.length c, .int .i64 y, .int .i64 z])) w' := by
  unfold RetNext
  rw [h]
  subst hy hz
  exact ⟨A, c, rfl, ho, hb⟩
theorem nextL_short {l : List UInt8} (h : l.length < 4) : nextL l = ([], 0, 2) := by
  match l, h with
  | [], _ => rfl
  | [_], _ => rfl
  | [_, _], _ => rfl
  | [_, _, _], _ => rfl
  | _ :: _ :: _ :: _ :: _, h => simp at h; omega
theorem four_of {l : List UInt8} (h : 4 ≤ l.length) : ∃ a b c d r, l = a :: b :: c :: d :: r := by
  match l, h with
  | a :: b :: c :: d :: r, _ => exact ⟨a, b, c, d, r, rfl⟩

theorem nextL_cons (a b c d : UInt8) (r : List UInt8) : nextL (a :: b :: c :: d :: r) =
    if frameMost < word4 a b c d then ([], 0, 3) else if r.length < word4 a b c d + 4 then ([], 0, 2)
    else if sumL (a :: b :: c :: d :: r.take (word4 a b c d)) = headWord (r.drop (word4 a b c d)) then (r.take (word4 a b c d), word4 a b c d + 8, 1) else ([], 0, 3) := by
  rw [nextL]

set_option maxRecDepth 100000 in
set_option maxHeartbeats 1600000 in
theorem fnext_any (A : Option Addr) (n c : Nat) (l : List UInt8) (w : World) (ha : Reads w w.heap.size 1 A n (bc l)) (hnc : n ≤ c) (hc : c ≤ maxLen) :
    Calls Try.prog 32 #[.slice A n c] w (RetNext w.heap.size w l) := by
  have hL : l.length = n := by have := ha.1; rw [bc_length] at this; omega
  unfold maxLen at hc
  by_cases h4 : n < 4
  · have HS := Lib.hid (nextL_short (l := l) (by omega))
    clear hL
    go_enter Try.func32, Try.ntmps32
    go_wp2
    go_ret3
    exact ret_next_no HS.out rfl (Below.refl _ _)
  obtain ⟨a0, a1, a2, a3, r, rfl⟩ := four_of (l := l) (by omega)
  obtain ⟨v, hv⟩ : ∃ v, v = word4 a0 a1 a2 a3 := ⟨_, rfl⟩
  have hvlt : v < 4294967296 := by
    have := a0.toNat_lt; have := a1.toNat_lt; have := a2.toNat_lt; have := a3.toNat_lt
    rw [hv]; unfold word4; omega
  have hr : r.length + 4 = n := by simpa using hL
  have hN := nextL_cons a0 a1 a2 a3 r
  rw [← hv] at hN
  have HN := Lib.hid hN
  have HV := Lib.hid hv
  have HR := Lib.hid hr
  have h4' : 4 ≤ n := by omega
  have hm : n ≤ maxLen := by unfold maxLen; omega
  clear hN hv hr hL h4
  by_cases hbig : 131072 < v
  · have HE := Lib.hid (show nextL (a0 :: a1 :: a2 :: a3 :: r) = ([], 0, 3) by rw [HN.out, if_pos (by unfold frameMost; omega)])
    go_enter Try.func32, Try.ntmps32
    go_wp2_with fail
    refine (get_any A n c a0 a1 a2 a3 r _ ha hm).mono ?_
    rintro e w' ⟨he, rfl⟩
    rw [← HV.out] at he
    subst he
    go_wp2
    go_ret3
    exact ret_next_no HE.out rfl (Below.refl _ _)
  have hbig' : v ≤ 131072 := by omega
  clear hbig
  by_cases hshort : n < v + 8
  · have HE := Lib.hid (show nextL (a0 :: a1 :: a2 :: a3 :: r) = ([], 0, 2) by rw [HN.out, if_neg (by unfold frameMost; omega), if_pos (by have := HR.out; omega)])
    go_enter Try.func32, Try.ntmps32
    go_wp2_with fail
    refine (get_any A n c a0 a1 a2 a3 r _ ha hm).mono ?_
    rintro e w' ⟨he, rfl⟩
    rw [← HV.out] at he
    subst he
    go_wp2
    go_ret3
    exact ret_next_no HE.out rfl (Below.refl _ _)
  have hlong : v + 8 ≤ n := by omega
  clear hshort
  obtain ⟨b0, b1, b2, b3, r2, hr2⟩ := four_of (l := r.drop v) (by rw [List.length_drop]; have := HR.out; omega)
  have HB := Lib.hid hr2
  clear hr2
  obtain ⟨b, off, rfl, hbl, _⟩ := ha.lit (by omega)
  -- the two pieces that are read
  have hp1 : Reads w w.heap.size 1 (some ⟨b, off, none⟩) (4 + v) (bc (a0 :: a1 :: a2 :: a3 :: r.take v)) := by
    have h := ha.take_ (k := 4 + v) (by omega)
    have e : (bc (a0 :: a1 :: a2 :: a3 :: r)).take ((4 + v) * 1) = bc (a0 :: a1 :: a2 :: a3 :: r.take v) := by
      simp [Lib.byteCells, Nat.add_comm 4 v, List.map_take]
    rwa [e] at h
  have hp2 : Reads w w.heap.size 1 (some ⟨b, off + (4 + v), none⟩) (n - (4 + v)) (bc (b0 :: b1 :: b2 :: b3 :: r2)) := by
    have h := ha.cut (k := 4 + v) (cap := c) (by omega) hnc
    rw [if_neg (by omega), Option.map_some, Nat.mul_one] at h
    have e : (bc (a0 :: a1 :: a2 :: a3 :: r)).drop (4 + v) = bc (b0 :: b1 :: b2 :: b3 :: r2) := by
      rw [← HB.out]; simp [Lib.byteCells, Nat.add_comm 4 v, List.map_drop]
    have hadd : (⟨b, off, none⟩ : Addr).add (4 + v) = ⟨b, off + (4 + v), none⟩ := by unfold Addr.add; split <;> simp_all
    rwa [e, hadd] at h
  have hp3 : Reads w w.heap.size 1 (some ⟨b, off + 4, none⟩) v (bc (r.take v)) := by
    have h := (ha.cut (k := 4) (cap := c) (by omega) hnc).take_ (k := v) (by omega)
    rw [if_neg (by omega), Option.map_some] at h
    have hadd : (⟨b, off, none⟩ : Addr).add (4 * 1) = ⟨b, off + 4, none⟩ := by unfold Addr.add; split <;> simp_all
    rw [hadd] at h
    simpa [Lib.byteCells, List.map_take] using h
  have hl1 : 4 + v ≤ c := by omega
  have hl2 : n - (4 + v) ≤ c - (4 + v) := by omega
  have hl3 : v ≤ c - 4 := by omega
  have hsum1 := fun (m cc : Nat) => sum_any (some ⟨b, off, none⟩) (4 + v) cc _ (w.drewN m) (hp1.drewN m) (by unfold maxLen; omega)
  have hget1 := fun (m cc : Nat) => get_any (some ⟨b, off + (4 + v), none⟩) (n - (4 + v)) cc b0 b1 b2 b3 r2 (w.drewN m) (hp2.drewN m) (by unfold maxLen; omega)
  have hs1 := sumL_lt (a0 :: a1 :: a2 :: a3 :: r.take v)
  obtain ⟨s1, e1⟩ : ∃ s1, s1 = sumL (a0 :: a1 :: a2 :: a3 :: r.take v) := ⟨_, rfl⟩
  obtain ⟨s2, e2⟩ : ∃ s2, s2 = word4 b0 b1 b2 b3 := ⟨_, rfl⟩
  rw [← e1] at hsum1 hs1
  rw [← e2] at hget1
  have HS1 := Lib.hid hsum1
  have HG1 := Lib.hid hget1
  have E1 := Lib.hid e1
  have E2 := Lib.hid e2
  clear hsum1 hget1 e1 e2 hp1 hp2
  by_cases hsum : s1 = s2
  · subst hsum
    have HE := Lib.hid (show nextL (a0 :: a1 :: a2 :: a3 :: r) = (r.take v, v + 8, 1) by
      rw [HN.out, if_neg (by unfold frameMost; omega), if_neg (by have := HR.out; omega), if_pos (by rw [HB.out, ← E1.out, E2.out]; rfl)])
    go_enter Try.func32, Try.ntmps32
    go_wp2_with fail
    refine (get_any _ n c a0 a1 a2 a3 r _ ha hm).mono ?_
    rintro e w' ⟨he, rfl⟩
    rw [← HV.out] at he
    subst he
    go_wp2_with fail
    go_quiet ((first | (go_at_call 39; exact quiet_left (HS1.out _ _)) | (go_at_call 40; exact quiet_left (HG1.out _ _))))
    go_wp2_with fail
    refine (clone_any _ _ _ (r.take v) _ (hp3.drewN nq) (Nat.le_refl _) (by omega)).mono ?_
    rintro e w2 h2
    obtain ⟨A2, c2, rfl, ho2, hb2, hc2, hm2, hr2⟩ := h2.open_
    have HT : Hid ((r.take v).length = v) := by unfold Hid; rw [List.length_take]; have := HR.out; omega
    have hb3 : Below w.heap.size w w2 := (below_drewN' (Below.refl _ _) nq).trans hb2
    clear hr2 hc2 h2
    rw [HT.out]
    go_wp2
    go_ret3
    have R := ret_next (B := w.heap.size) (y := 4 + (v : Int) + 4) (z := 1) HE.out (by omega) rfl ho2 hb3
    rw [HT.out] at R
    exact R
  · have HE := Lib.hid (show nextL (a0 :: a1 :: a2 :: a3 :: r) = ([], 0, 3) by
      rw [HN.out, if_neg (by unfold frameMost; omega), if_neg (by have := HR.out; omega), if_neg (by rw [HB.out, ← E1.out]; intro h; exact hsum (h.trans E2.out.symm))])
    have hne : ((s1 : Int) != (s2 : Int)) = true := by rw [bne_iff_ne]; omega
    go_enter Try.func32, Try.ntmps32
    go_wp2_with fail
    refine (get_any _ n c a0 a1 a2 a3 r _ ha hm).mono ?_
    rintro e w' ⟨he, rfl⟩
    rw [← HV.out] at he
    subst he
    go_wp2_with fail
    go_quiet ((first | (go_at_call 39; exact quiet_left (HS1.out _ _)) | (go_at_call 40; exact quiet_left (HG1.out _ _))))
    go_wp2
    go_ret3
    exact ret_next_no HE.out rfl (below_drewN' (Below.refl _ _) nq)

set_option maxRecDepth 100000 in
set_option maxHeartbeats 1600000 in
theorem refFnext_any (A : Option Addr) (n c : Nat) (l : List UInt8) (w : World) (ha : Reads w w.heap.size 1 A n (bc l)) (hnc : n ≤ c) (hc : c ≤ maxLen) :
    Calls Try.prog 35 #[.slice A n c] w (RetNext w.heap.size w l) := by
  have hL : l.length = n := by have := ha.1; rw [bc_length] at this; omega
  unfold maxLen at hc
  by_cases h4 : n < 4
  · have HS := Lib.hid (nextL_short (l := l) (by omega))
    clear hL
    go_enter Try.func35, Try.ntmps35
    go_wp2
    go_ret3
    exact ret_next_no HS.out rfl (Below.refl _ _)
  obtain ⟨a0, a1, a2, a3, r, rfl⟩ := four_of (l := l) (by omega)
  obtain ⟨v, hv⟩ : ∃ v, v = word4 a0 a1 a2 a3 := ⟨_, rfl⟩
  have hvlt : v < 4294967296 := by
    have := a0.toNat_lt; have := a1.toNat_lt; have := a2.toNat_lt; have := a3.toNat_lt
    rw [hv]; unfold word4; omega
  have hr : r.length + 4 = n := by simpa using hL
  have hN := nextL_cons a0 a1 a2 a3 r
  rw [← hv] at hN
  have HN := Lib.hid hN
  have HV := Lib.hid hv
  have HR := Lib.hid hr
  have h4' : 4 ≤ n := by omega
  have hm : n ≤ maxLen := by unfold maxLen; omega
  clear hN hv hr hL h4
  by_cases hbig : 131072 < v
  · have HE := Lib.hid (show nextL (a0 :: a1 :: a2 :: a3 :: r) = ([], 0, 3) by rw [HN.out, if_pos (by unfold frameMost; omega)])
    go_enter Try.func35, Try.ntmps35
    go_wp2_with fail
    refine (word_any A n c a0 a1 a2 a3 r _ ha hm).mono ?_
    rintro e w' ⟨he, m1, rfl⟩
    rw [← HV.out] at he
    subst he
    go_wp2
    go_ret3
    exact ret_next_no HE.out rfl (below_drewN' (Below.refl _ _) _)
  have hbig' : v ≤ 131072 := by omega
  clear hbig
  by_cases hshort : n < v + 8
  · have HE := Lib.hid (show nextL (a0 :: a1 :: a2 :: a3 :: r) = ([], 0, 2) by rw [HN.out, if_neg (by unfold frameMost; omega), if_pos (by have := HR.out; omega)])
    go_enter Try.func35, Try.ntmps35
    go_wp2_with fail
    refine (word_any A n c a0 a1 a2 a3 r _ ha hm).mono ?_
    rintro e w' ⟨he, m1, rfl⟩
    rw [← HV.out] at he
    subst he
    go_wp2
    go_ret3
    exact ret_next_no HE.out rfl (below_drewN' (Below.refl _ _) _)
  have hlong : v + 8 ≤ n := by omega
  clear hshort
  obtain ⟨b0, b1, b2, b3, r2, hr2⟩ := four_of (l := r.drop v) (by rw [List.length_drop]; have := HR.out; omega)
  have HB := Lib.hid hr2
  clear hr2
  obtain ⟨b, off, rfl, hbl, _⟩ := ha.lit (by omega)
  -- the two pieces that are read
  have hp1 : Reads w w.heap.size 1 (some ⟨b, off, none⟩) (v + 4) (bc (a0 :: a1 :: a2 :: a3 :: r.take v)) := by
    have h := ha.take_ (k := v + 4) (by omega)
    have e : (bc (a0 :: a1 :: a2 :: a3 :: r)).take ((v + 4) * 1) = bc (a0 :: a1 :: a2 :: a3 :: r.take v) := by
      simp [Lib.byteCells, List.map_take]
    rwa [e] at h
  have hp2 : Reads w w.heap.size 1 (some ⟨b, off + (v + 4), none⟩) (n - (v + 4)) (bc (b0 :: b1 :: b2 :: b3 :: r2)) := by
    have h := ha.cut (k := v + 4) (cap := c) (by omega) hnc
    rw [if_neg (by omega), Option.map_some, Nat.mul_one] at h
    have e : (bc (a0 :: a1 :: a2 :: a3 :: r)).drop (v + 4) = bc (b0 :: b1 :: b2 :: b3 :: r2) := by
      rw [← HB.out]; simp [Lib.byteCells, List.map_drop]
    have hadd : (⟨b, off, none⟩ : Addr).add (v + 4) = ⟨b, off + (v + 4), none⟩ := by unfold Addr.add; split <;> simp_all
    rwa [e, hadd] at h
  have hp3 : Reads w w.heap.size 1 (some ⟨b, off + 4, none⟩) v (bc (r.take v)) := by
    have h := (ha.cut (k := 4) (cap := c) (by omega) hnc).take_ (k := v) (by omega)
    rw [if_neg (by omega), Option.map_some] at h
    have hadd : (⟨b, off, none⟩ : Addr).add (4 * 1) = ⟨b, off + 4, none⟩ := by unfold Addr.add; split <;> simp_all
    rw [hadd] at h
    simpa [Lib.byteCells, List.map_take] using h
  have hl1 : 4 + v ≤ c := by omega
  have hl2 : n - (v + 4) ≤ c - (v + 4) := by omega
  have hl3 : v ≤ c - 4 := by omega
  have hsum1 := fun (m cc : Nat) => refSum_any (some ⟨b, off, none⟩) (v + 4) cc _ (w.drewN m) (hp1.drewN m) (by unfold maxLen; omega)
  have hget1 := fun (m cc : Nat) => word_any (some ⟨b, off + (v + 4), none⟩) (n - (v + 4)) cc b0 b1 b2 b3 r2 (w.drewN m) (hp2.drewN m) (by unfold maxLen; omega)
  have hs1 := sumL_lt (a0 :: a1 :: a2 :: a3 :: r.take v)
  obtain ⟨s1, e1⟩ : ∃ s1, s1 = sumL (a0 :: a1 :: a2 :: a3 :: r.take v) := ⟨_, rfl⟩
  obtain ⟨s2, e2⟩ : ∃ s2, s2 = word4 b0 b1 b2 b3 := ⟨_, rfl⟩
  rw [← e1] at hsum1 hs1
  rw [← e2] at hget1
  have HS1 := Lib.hid hsum1
  have HG1 := Lib.hid hget1
  have E1 := Lib.hid e1
  have E2 := Lib.hid e2
  clear hsum1 hget1 e1 e2 hp1 hp2
  by_cases hsum : s1 = s2
  · subst hsum
    have HE := Lib.hid (show nextL (a0 :: a1 :: a2 :: a3 :: r) = (r.take v, v + 8, 1) by
      rw [HN.out, if_neg (by unfold frameMost; omega), if_neg (by have := HR.out; omega), if_pos (by rw [HB.out, ← E1.out, E2.out]; rfl)])
    go_enter Try.func35, Try.ntmps35
    go_wp2_with fail
    refine (word_any _ n c a0 a1 a2 a3 r _ ha hm).mono ?_
    rintro e w' ⟨he, m1, rfl⟩
    rw [← HV.out] at he
    subst he
    go_wp2_with fail
    go_quiet ((first | (go_at_call 44; exact quiet_add_left (HS1.out _ _)) | (go_at_call 43; exact quiet_add (HG1.out _ _))))
    have hp3' : Reads w w.heap.size 1 (some ⟨b, off + 4, none⟩) (v + 4 - 4) (bc (r.take v)) := by rw [Nat.add_sub_cancel]; exact hp3
    have HT : Hid ((r.take v).length = v) := by unfold Hid; rw [List.length_take]; have := HR.out; omega
    go_wp2_with (at_builtin; refine app_bytes _ rfl (.tmp 30) (.tmp 34) rfl w.heap.size _ 0 [] rfl (.inl (World.ownsRow_made (w.drewN (m1 + nq)) #[] 0 (Nat.le_refl _) (Nat.zero_le _) rfl)) w.heap.size _ _ _ _ rfl ((hp3'.drewN (m1 + nq)).alloc (Nat.le_refl _) _) (bc_one _) (by omega) (by simp) ?_; intro v1 w1 ho1 hb1 hr1)
    have ho2 := hr1 (.inl (World.ownsRow_made (w.drewN (m1 + nq)) #[] 0 (Nat.le_refl _) (Nat.zero_le _) rfl))
    rw [Nat.zero_add, Nat.add_sub_cancel, List.nil_append] at ho2
    obtain ⟨A2, c2, rfl, _⟩ := Owns.form (.inl ho2)
    have ho3 : w1.ownsRow w.heap.size 5 1 (.slice A2 (r.take v).length c2) (r.take v).length (bc (r.take v)) := by rw [HT.out]; exact ho2
    go_ret3
    have hb2 : Below w.heap.size w w1 := ((below_drewN' (Below.refl _ _) (m1 + nq)).alloc (Nat.le_refl _) _).trans hb1
    have R := ret_next (y := (v : Int) + 8) (z := 1) HE.out (by omega) rfl ho3 hb2
    rw [HT.out] at R
    exact R
  · have HE := Lib.hid (show nextL (a0 :: a1 :: a2 :: a3 :: r) = ([], 0, 3) by
      rw [HN.out, if_neg (by unfold frameMost; omega), if_neg (by have := HR.out; omega), if_neg (by rw [HB.out, ← E1.out]; intro h; exact hsum (h.trans E2.out.symm))])
    have hne : ((s1 : Int) != (s2 : Int)) = true := by rw [bne_iff_ne]; omega
    go_enter Try.func35, Try.ntmps35
    go_wp2_with fail
    refine (word_any _ n c a0 a1 a2 a3 r _ ha hm).mono ?_
    rintro e w' ⟨he, m1, rfl⟩
    rw [← HV.out] at he
    subst he
    go_wp2_with fail
    go_quiet ((first | (go_at_call 44; exact quiet_add_left (HS1.out _ _)) | (go_at_call 43; exact quiet_add (HG1.out _ _))))
    go_wp2
    go_ret3
    exact ret_next_no HE.out rfl (below_drewN' (below_drewN' (Below.refl _ _) _) _)
end Go.Proofs.Ytchhejheobceiaa
