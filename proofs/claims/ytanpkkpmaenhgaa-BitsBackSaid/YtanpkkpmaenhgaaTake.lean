/- The walks of bits.Take and the reference's: the text that bytes begin with. No condition. -/
import Derived.Test.YtanpkkpmaenhgaaUnvar
namespace Go.Proofs.Ytanpkkpmaenhgaa
open Go.RowKit
set_option linter.unusedVariables false

/-- The text that bytes begin with, and how many bytes it has in all; empty and 0: there is none. -/
def takeL (l : List UInt8) : List UInt8 × Nat :=
  if (unv l).2 = 0 ∨ l.length - (unv l).2 < (unv l).1 then ([], 0) else ((l.drop (unv l).2).take (unv l).1, (unv l).2 + (unv l).1)
def RetTake (l : List UInt8) (w : World) (e : Ending) (w' : World) : Prop := e = .returned (.tuple #[.string ⟨(takeL l).1.toArray⟩, .int .i64 (takeL l).2]) ∧ w = w'
theorem ret_take {l t : List UInt8} {w : World} {m : Nat} {s : ByteArray} {x : Int} (h : takeL l = (t, m)) (hs : s = ⟨t.toArray⟩) (hx : x = m) : RetTake l w (.returned (.tuple #[.string s, .int .i64 x])) w := by
  unfold RetTake
  rw [h, hs, hx]
  exact ⟨rfl, rfl⟩
/-- The piece b[n:n+v]. -/
theorem Reads.piece {w : World} {B n c i v : Nat} {A : Option Addr} {l : List UInt8} (h : Reads w B 1 A n (bc l)) (hc : n ≤ c) (hi : i + v ≤ n) :
    Reads w B 1 (if c = i then A else A.map (·.add i)) v (bc ((l.drop i).take v)) := by
  have h1 := (h.cut (k := i) (by omega) hc).take_ (k := v) (by omega)
  simpa [Lib.byteCells, List.map_take, List.map_drop] using h1

set_option maxRecDepth 100000 in
set_option maxHeartbeats 400000 in
theorem take_any (A : Option Addr) (n c : Nat) (l : List UInt8) (w : World) {B : Nat} (ha : Reads w B 1 A n (bc l)) (hnc : n ≤ c) (hc : c ≤ maxLen) :
    Calls Try.prog 21 #[.slice A n c] w (RetTake l w) := by
  unfold maxLen at hc
  have hl : l.length = n := by have := ha.1; rw [bc_length] at this; omega
  have hm := unv_lt l
  have hv := unv_val l
  have hT : takeL l = if (unv l).2 = 0 ∨ l.length - (unv l).2 < (unv l).1 then ([], 0) else ((l.drop (unv l).2).take (unv l).1, (unv l).2 + (unv l).1) := rfl
  obtain ⟨v, m, hu⟩ : ∃ v m, unv l = (v, m) := ⟨_, _, rfl⟩
  rw [hu, hl] at hT
  rw [hu] at hm hv
  simp only at hm hv hT
  rw [hl] at hm
  have HT := Lib.hid hT
  have HU := Lib.hid hu
  have HL := Lib.hid hl
  clear hT hu hl
  by_cases h0 : m ≤ 0
  · have HR := Lib.hid (show takeL l = ([], 0) by rw [HT.out, if_pos (by omega)])
    go_enter Try.func21, Try.ntmps21
    go_wp2_with fail
    refine (unvar_any A n c l _ ha (by unfold maxLen; omega)).mono ?_
    rintro e w' h'
    obtain ⟨rfl, rfl⟩ := h'.eq HU.out
    go_wp2
    go_ret2
    exact ret_take HR.out rfl rfl
  · have hm0 : 0 < m := by omega
    have hz : ((m : Int) == 0) = false := by rw [beq_eq_false_iff_ne]; omega
    clear h0
    by_cases hlt : n - m < v
    · have HR := Lib.hid (show takeL l = ([], 0) by rw [HT.out, if_pos (by omega)])
      go_enter Try.func21, Try.ntmps21
      go_wp2_with fail
      refine (unvar_any A n c l _ ha (by unfold maxLen; omega)).mono ?_
      rintro e w' h'
      obtain ⟨rfl, rfl⟩ := h'.eq HU.out
      go_wp2
      go_ret2
      exact ret_take HR.out rfl rfl
    · have HR := Lib.hid (show takeL l = ((l.drop m).take v, m + v) by rw [HT.out, if_neg (by omega)])
      have hvn : m + v ≤ n := by omega
      have hr := ha.piece hnc hvn
      obtain ⟨ad, rfl, _, _⟩ := ha.2 (by omega)
      by_cases hcm : c ≤ m
      · rw [if_pos (by omega)] at hr
        have hcv := run_string_reads (P := Try.prog) w 25 9 5 Try.underlying25 Try.underlying5 Try.underlying9 (c := 0) hr
        clear hr
        go_enter Try.func21, Try.ntmps21
        go_wp2_with fail
        refine (unvar_any _ n c l _ ha (by unfold maxLen; omega)).mono ?_
        rintro e w' h'
        obtain ⟨rfl, rfl⟩ := h'.eq HU.out
        go_wp2
        go_ret2
        exact ret_take HR.out rfl (by omega)
      · rw [if_neg (by omega), Option.map_some] at hr
        have hcv := run_string_reads (P := Try.prog) w 25 9 5 Try.underlying25 Try.underlying5 Try.underlying9 (c := c - m) hr
        clear hr
        have hcm' : m < c := by omega
        go_enter Try.func21, Try.ntmps21
        go_wp2_with fail
        refine (unvar_any _ n c l _ ha (by unfold maxLen; omega)).mono ?_
        rintro e w' h'
        obtain ⟨rfl, rfl⟩ := h'.eq HU.out
        go_wp2
        go_ret2
        exact ret_take HR.out rfl (by omega)

set_option maxRecDepth 100000 in
set_option maxHeartbeats 400000 in
theorem refTake_any (A : Option Addr) (n c : Nat) (l : List UInt8) (w : World) {B : Nat} (ha : Reads w B 1 A n (bc l)) (hnc : n ≤ c) (hc : c ≤ maxLen) :
    Calls Try.prog 22 #[.slice A n c] w (RetTake l w) := by
  unfold maxLen at hc
  have hl : l.length = n := by have := ha.1; rw [bc_length] at this; omega
  have hm := unv_lt l
  have hv := unv_val l
  have hT : takeL l = if (unv l).2 = 0 ∨ l.length - (unv l).2 < (unv l).1 then ([], 0) else ((l.drop (unv l).2).take (unv l).1, (unv l).2 + (unv l).1) := rfl
  obtain ⟨v, m, hu⟩ : ∃ v m, unv l = (v, m) := ⟨_, _, rfl⟩
  rw [hu, hl] at hT
  rw [hu] at hm hv
  simp only at hm hv hT
  rw [hl] at hm
  have HT := Lib.hid hT
  have HU := Lib.hid hu
  have HL := Lib.hid hl
  clear hT hu hl
  by_cases h0 : m ≤ 0
  · have HR := Lib.hid (show takeL l = ([], 0) by rw [HT.out, if_pos (by omega)])
    go_enter Try.func22, Try.ntmps22
    go_wp2_with fail
    refine (refUnvar_any A n c l _ ha (by unfold maxLen; omega)).mono ?_
    rintro e w' h'
    obtain ⟨rfl, rfl⟩ := h'.eq HU.out
    go_wp2
    go_ret2
    exact ret_take HR.out rfl rfl
  · have hm0 : 0 < m := by omega
    have hz : ((m : Int) == 0) = false := by rw [beq_eq_false_iff_ne]; omega
    clear h0
    by_cases hlt : n - m < v
    · have HR := Lib.hid (show takeL l = ([], 0) by rw [HT.out, if_pos (by omega)])
      go_enter Try.func22, Try.ntmps22
      go_wp2_with fail
      refine (refUnvar_any A n c l _ ha (by unfold maxLen; omega)).mono ?_
      rintro e w' h'
      obtain ⟨rfl, rfl⟩ := h'.eq HU.out
      go_wp2
      go_ret2
      exact ret_take HR.out rfl rfl
    · have HR := Lib.hid (show takeL l = ((l.drop m).take v, m + v) by rw [HT.out, if_neg (by omega)])
      have hvn : m + v ≤ n := by omega
      have hr := ha.piece hnc hvn
      obtain ⟨ad, rfl, _, _⟩ := ha.2 (by omega)
      by_cases hcm : c ≤ m
      · rw [if_pos (by omega)] at hr
        have hcv := run_string_reads (P := Try.prog) w 25 9 5 Try.underlying25 Try.underlying5 Try.underlying9 (c := 0) hr
        clear hr
        go_enter Try.func22, Try.ntmps22
        go_wp2_with fail
        refine (refUnvar_any _ n c l _ ha (by unfold maxLen; omega)).mono ?_
        rintro e w' h'
        obtain ⟨rfl, rfl⟩ := h'.eq HU.out
        go_wp2
        go_ret2
        exact ret_take HR.out rfl (by omega)
      · rw [if_neg (by omega), Option.map_some] at hr
        have hcv := run_string_reads (P := Try.prog) w 25 9 5 Try.underlying25 Try.underlying5 Try.underlying9 (c := c - m) hr
        clear hr
        have hcm' : m < c := by omega
        go_enter Try.func22, Try.ntmps22
        go_wp2_with fail
        refine (refUnvar_any _ n c l _ ha (by unfold maxLen; omega)).mono ?_
        rintro e w' h'
        obtain ⟨rfl, rfl⟩ := h'.eq HU.out
        go_wp2
        go_ret2
        exact ret_take HR.out rfl (by omega)
end Go.Proofs.Ytanpkkpmaenhgaa
