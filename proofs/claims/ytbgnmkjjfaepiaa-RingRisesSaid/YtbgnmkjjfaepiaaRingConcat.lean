import Derived.Test.YtbgnmkjjfaepiaaRingSet
import Derived.Lib.AppendZeros
namespace Go.Proofs.Ytbgnmkjjfaepiaa
open Go.RowKit
set_option linter.unusedVariables false

set_option maxRecDepth 100000 in
set_option maxHeartbeats 4000000 in
theorem grow_nil (w : World) (n : Nat) (h0 : 0 < n) (hn : n ≤ 1000) :
    Calls Try.prog 38 #[.slice none 0 0, .int .i64 (n : Int)] w fun e w' => ∃ v, e = .returned v ∧ Owns w' w.heap.size 31 4 v 0 [] ∧ Below w.heap.size w w' := by
  obtain ⟨i0, hi, hz0, hz1, hz2⟩ := info_parts Try.infoRange
  have hrun := fun ty => Lib.run_append_nil_zeros (P := Try.prog) w 22 3 ty 31 i0 _ .i64 .i64 Try.underlying22 Try.underlying3 hi hz0 n h0 (by omega) (by omega) (by rw [hz2]; omega)
  have HRUN := Lib.hid hrun
  clear hrun hi hz0 hz1 hz2
  have hge := grownCap_ge w n 0 31
  have hle := grownCap_le_maxLen w n 0 31 (by unfold maxLen; omega)
  generalize hcap : grownCap w n 0 31 = cap at *
  obtain ⟨C, HC⟩ : ∃ C, Hid (C = Builtin.zeroCells (Value.agg #[.int .i64 0, .int .i64 0, .int .i64 0, .int .i64 0]).cells n ++ Builtin.zeroCells (Value.agg #[.int .i64 0, .int .i64 0, .int .i64 0, .int .i64 0]).cells (cap - n)) := ⟨_, Lib.hid rfl⟩
  rw [← HC.out] at HRUN
  have hsz : C.size = cap * 4 := by
    rw [HC.out, Array.size_append, size_zeroCells, size_zeroCells]
    simp [Value.cells]
    omega
  have HOW : Hid (Owns (w.drew.alloc (.cells C 31)) w.heap.size 31 4 (.slice (some ⟨w.heap.size, 0, none⟩) 0 cap) 0 []) :=
    Lib.hid (.inl (World.ownsRow_made (base := w.heap.size) (e := 31) (size := 4) w.drew C cap (Nat.le_refl _) hle hsz))
  clear hsz HC hcap
  unfold maxLen at hle
  go_enter Try.func38, Try.ntmps38
  go_wp2_with (at_builtin; refine Lib.wpList_append_run _ rfl _ _ _ _ rfl _ _ rfl rfl _ _ (HRUN.out _) ?_)
  go_ret
  exact ⟨_, rfl, HOW.out, (Below.refl _ _).drew.alloc (Nat.le_refl _) _⟩

/-- Slices that read as rows of ranges. -/
def AreR (w : World) (B : Nat) (vs : List Value) (ls : List (List Rg)) : Prop :=
  vs.length = ls.length ∧ ∀ (i : Nat) (v : Value) (l : List Rg), vs[i]? = some v → ls[i]? = some l → ∃ A c, v = .slice A l.length c ∧ Reads w B 4 A l.length (rowCells l)
theorem AreR.below {w w' : World} {B : Nat} {vs : List Value} {ls : List (List Rg)} (h : AreR w B vs ls) (hb : Below B w w') : AreR w' B vs ls :=
  ⟨h.1, fun i v l h1 h2 => by obtain ⟨A, c, e, hr⟩ := h.2 i v l h1 h2; exact ⟨A, c, e, hr.below hb⟩⟩
theorem flat_succ {ls : List (List Rg)} {k : Nat} {l : List Rg} (h : ls[k]? = some l) : (ls.take (k + 1)).flatten = (ls.take k).flatten ++ l := by
  rw [List.take_add_one, h]; simp
theorem flat_le {ls : List (List Rg)} (k : Nat) : (ls.take k).flatten.length ≤ ls.flatten.length := by
  have : ls.flatten = (ls.take k).flatten ++ (ls.drop k).flatten := by rw [← List.flatten_append, List.take_append_drop]
  rw [this, List.length_append]; omega

set_option maxRecDepth 100000 in
set_option maxHeartbeats 4000000 in
theorem concat_any (w : World) (A : Option Addr) (n c : Nat) (vs : List Value) (ls : List (List Rg)) (hv : Reads w w.heap.size 1 A n vs) (hA : AreR w w.heap.size vs ls) (hn : n ≤ 10) (h0 : 0 < ls.flatten.length) (h1 : ls.flatten.length ≤ 1000) :
    Calls Try.prog 35 #[.slice A n c] w fun e w' => ∃ A' c', e = .returned (.slice A' ls.flatten.length c') ∧ ls.flatten.length ≤ c' ∧ c' ≤ maxLen ∧ Reads w' w'.heap.size 4 A' ls.flatten.length (rowCells ls.flatten) ∧ Below w.heap.size w w' ∧ Owns w' w.heap.size 31 4 (.slice A' ls.flatten.length c') ls.flatten.length (rowCells ls.flatten) := by
  have hvl : vs.length = n := by have := hv.1; omega
  have HV := Lib.hid hv
  have HA := Lib.hid hA
  have HVL := Lib.hid hvl
  have HFL : Hid (∀ k, (ls.take k).flatten.length ≤ ls.flatten.length) := Lib.hid flat_le
  have HFN : Hid ((ls.take n).flatten = ls.flatten) := Lib.hid (by rw [List.take_of_length_le (by have := hA.1; omega)])
  obtain ⟨T, HT⟩ : ∃ T : Nat, Hid (ls.flatten.length = T) := ⟨_, Lib.hid rfl⟩
  rw [HT.out] at h0 h1 ⊢
  clear hv hA hvl
  go_enter Try.func35, Try.ntmps35
  go_wp2
  go_loopw [3, 11] (fun s i wr => ∃ k m : Nat, k ≤ n ∧ i = .int .i64 k ∧ s = .int .i64 m ∧ Hid (m = (ls.take k).flatten.length) ∧ wr = w) (fun _ i _ => n - (intOf i).toNat)
  case atStart => exact ⟨0, 0, Nat.zero_le _, rfl, rfl, Lib.hid (by simp), rfl⟩
  case round =>
    obtain ⟨k, m, hk, rfl, rfl, hm, hwr⟩ := hrel
    have hwr' := hwr.symm
    clear hwr
    subst hwr'
    have hmb : m ≤ 1000 := by have := HFL.out k; have := hm.out; have := HT.out; omega
    refine code_hide (fun Q0 HQ0 => ?_)
    by_cases hlt : k < n
    · obtain ⟨v, hvk⟩ : ∃ v, vs[k]? = some v := ⟨_, List.getElem?_eq_getElem (by have := HVL.out; omega)⟩
      obtain ⟨l, hlk⟩ : ∃ l, ls[k]? = some l := ⟨_, List.getElem?_eq_getElem (by have := HVL.out; have := HA.out.1; omega)⟩
      obtain ⟨ad, rfl, hab, hc⟩ := HV.out.2 (by omega)
      have hck := hc k v hvk
      obtain ⟨A', c', rfl, hr'⟩ := HA.out.2 k v l hvk hlk
      have HM : Hid (m + l.length = (ls.take (k + 1)).flatten.length) := Lib.hid (by rw [flat_succ hlk, List.length_append, hm.out])
      have hmb2 : m + l.length ≤ 1000 := by have := HFL.out (k + 1); have := HM.out; have := HT.out; omega
      clear hc hr' hvk hlk
      generalize l.length = ll at *
      go_wp2
      refine hide_out HQ0 ?_
      go_step
      go_roundw
      case rel => exact ⟨k + 1, m + ll, by omega, by go_num, by go_num, HM, trivial⟩
      case measure => simp [intOf]; omega
    · obtain rfl : n = k := by omega
      have hmT : m = T := by rw [hm.out, HFN.out, HT.out]
      subst hmT
      go_wp2
      refine hide_out HQ0 ?_
      go_wp2_with (go_at_call 38; refine (grow_nil _ _ h0 h1).mono ?_; rintro e w1 ⟨v1, rfl, ho1, hb1⟩)
      have HO1 := Lib.hid ho1
      have HB1 := Lib.hid hb1
      clear ho1 hb1
      go_loopw [6, 27] (fun s i w2 => ∃ k : Nat, k ≤ n ∧ i = .int .i64 k ∧ Hid (Owns w2 w.heap.size 31 4 s (ls.take k).flatten.length (rowCells (ls.take k).flatten)) ∧ Below w.heap.size w w2) (fun _ i _ => n - (intOf i).toNat)
      case atStart => exact ⟨0, Nat.zero_le _, rfl, HO1, HB1.out⟩
      case round =>
        obtain ⟨k, hk2, rfl, ho, hb⟩ := hrel
        have HB := Lib.hid hb
        clear hb
        refine code_hide (fun Q1 HQ1 => ?_)
        by_cases hlt2 : k < n
        · obtain ⟨v, hvk⟩ : ∃ v, vs[k]? = some v := ⟨_, List.getElem?_eq_getElem (by have := HVL.out; omega)⟩
          obtain ⟨l, hlk⟩ : ∃ l, ls[k]? = some l := ⟨_, List.getElem?_eq_getElem (by have := HVL.out; have := HA.out.1; omega)⟩
          obtain ⟨ad, rfl, hab, hc⟩ := (HV.out.below HB.out).2 (by omega)
          have hck := hc k v hvk
          obtain ⟨A', c', rfl, hr'⟩ := (HA.out.below HB.out).2 k v l hvk hlk
          have HR' := Lib.hid hr'
          have HF : Hid ((ls.take (k + 1)).flatten = (ls.take k).flatten ++ l) := Lib.hid (flat_succ hlk)
          have HML : Hid ((ls.take k).flatten.length + l.length ≤ 1000) := Lib.hid (by have := HFL.out (k + 1); rw [HF.out, List.length_append] at this; have := HT.out; omega)
          clear hc hr' hvk hlk
          go_wp2_with (at_builtin; refine app_ranges _ rfl (.tmp 31) (.tmp 32) rfl w.heap.size _ _ (rowCells (ls.take k).flatten) rfl ho.out w.heap.size _ l.length _ (rowCells l) rfl HR'.out (rowCells_one _) (by have := HML.out; omega) HB.out.size ?_; intro v2 w3 ho2 hb2 hr2)
          refine hide_out HQ1 ?_
          go_step
          go_roundw
          case rel =>
            refine ⟨k + 1, by omega, by go_num, Lib.hid ?_, HB.out.trans hb2⟩
            rw [HF.out, List.length_append, rowCells_append]; exact ho2
          case measure => simp [intOf]; omega
        · obtain rfl : n = k := by omega
          have ho' := ho.out
          rw [HFN.out, HT.out] at ho'
          obtain ⟨A2, c2, hv2, hc2, hm2, hrd⟩ := ho'.form
          subst hv2
          go_wp2
          refine hide_out HQ1 ?_
          go_wp2
          go_ret
          exact ⟨A2, c2, rfl, hc2, hm2, hrd, HB.out, ho'⟩
end Go.Proofs.Ytbgnmkjjfaepiaa
