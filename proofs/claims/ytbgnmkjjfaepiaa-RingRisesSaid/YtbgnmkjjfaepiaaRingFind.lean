import Derived.Test.YtbgnmkjjfaepiaaRingSound
import Derived.Test.YtbgnmkjjfaepiaaRingSoundR
import Derived.Test.YtbgnmkjjfaepiaaRingOps
namespace Go.Proofs.Ytbgnmkjjfaepiaa
open Go.RowKit
set_option linter.unusedVariables false

def has (h : Int) (r : Rg) : Bool := decide (r.a ≤ h) && decide (h ≤ r.b)
def zeroR : Rg := ⟨0, 0, 0, 0⟩
def findL (l : List Rg) (h : Int) : Option Rg := if soundL l then l.find? (has h) else none
/-- A range and whether there is one are handed back. -/
def RetF (w : World) (o : Option Rg) (e : Ending) (w' : World) : Prop := e = .returned (.tuple #[(o.getD zeroR).val, .bool o.isSome]) ∧ Below w.heap.size w w'
/-- A number is handed back. -/
def RetI (w : World) (n : Int) (e : Ending) (w' : World) : Prop := e = .returned (.int .i64 n) ∧ Below w.heap.size w w'
def atL (l : List Rg) (h : Int) : Int := if soundL l then (match l.findIdx? (has h) with | some i => (i : Int) | none => -1) else -1

set_option maxRecDepth 100000 in
theorem at1_any (w : World) (r : Rg) (h : Int) (p : Addr) (hc : w.cell? p = some (.int .i64 h)) (hp : p.block < w.heap.size) :
    Calls Try.prog 37 #[r.val, .pointer (some p)] w (RetB w (has h r)) := by
  obtain ⟨a, b, c, d⟩ := r
  unfold Rg.val
  simp only
  have hc' : (w.alloc (.cells #[.int .i64 a, .int .i64 b, .int .i64 c, .int .i64 d] 31)).cell? p = some (.int .i64 h) := by rw [World.cell?_alloc_lt _ _ _ hp]; exact hc
  go_enter Try.func37, Try.ntmps37
  go_wp2
  all_goals go_ret
  all_goals refine ⟨?_, (Below.refl _ _).alloc (Nat.le_refl _) _⟩
  all_goals simp [has]
  all_goals omega

theorem findIdx_go {l : List Rg} {h : Int} {k : Nat} {r : Rg} (hrk : l[k]? = some r) (hn : ∀ j x, j < k → l[j]? = some x → has h x = false) (hh : has h r = true) : l.findIdx? (has h) = some k := by
  rw [List.findIdx?_eq_some_iff_getElem]
  obtain ⟨hk, he⟩ := List.getElem?_eq_some_iff.1 hrk
  refine ⟨hk, by rw [he]; exact hh, fun j hj => ?_⟩
  rw [hn j _ hj (List.getElem?_eq_getElem (by omega))]
  simp
theorem findIdx_none {l : List Rg} {h : Int} (hn : ∀ j x, j < l.length → l[j]? = some x → has h x = false) : l.findIdx? (has h) = none := by
  rw [List.findIdx?_eq_none_iff]
  intro x hx
  obtain ⟨j, hj, he⟩ := List.getElem_of_mem hx
  exact hn j x hj (by rw [List.getElem?_eq_getElem hj, he])
def idxL (l : List Rg) (h : Int) : Int := match l.findIdx? (has h) with | some i => (i : Int) | none => -1

set_option maxRecDepth 100000 in
set_option maxHeartbeats 4000000 in
theorem idx_any (w : World) (A : Option Addr) (n c B : Nat) (l : List Rg) (h : Int) (p : Addr) (hr : Reads w B 4 A n (rowCells l)) (hB : B ≤ w.heap.size) (hl : l.length = n) (hn : n ≤ maxLen) (hc : w.cell? p = some (.int .i64 h)) (hp : p.block < w.heap.size) :
    Calls Try.prog 36 #[.slice A n c, .func (.func 37) #[] #[.pointer (some p)]] w (RetI w (idxL l h)) := by
  have HL := Lib.hid hl
  have HR := Lib.hid hr
  clear hr
  unfold maxLen at hn
  go_enter Try.func36, Try.ntmps36
  go_wp2
  go_loopw [8] (fun i wr => ∃ k : Nat, k ≤ n ∧ i = .int .i64 k ∧ (∀ j x, j < k → l[j]? = some x → has h x = false) ∧ Below w.heap.size w wr) (fun i _ => n - (intOf i).toNat)
  case atStart => exact ⟨0, Nat.zero_le _, rfl, fun j x hj => absurd hj (by omega), Below.refl _ _⟩
  case round =>
    obtain ⟨k, hk, rfl, hnone, hb⟩ := hrel
    have HN := Lib.hid hnone
    have HB := Lib.hid hb
    clear hnone
    refine code_hide (fun Q0 HQ0 => ?_)
    by_cases hlt : k < n
    · obtain ⟨r, hrk⟩ : ∃ r, l[k]? = some r := ⟨_, List.getElem?_eq_getElem (by have := HL.out; omega)⟩
      obtain ⟨ad, rfl, hab, hra⟩ := (HR.out.keep (w' := wr) (fun q hq => hb.cell (by omega))).range hrk hlt
      obtain ⟨q, HO, HQ⟩ : ∃ q, Hid (Calls Try.prog 37 #[r.val, .pointer (some p)] wr (RetB wr q)) ∧ Hid (has h r = q) :=
        ⟨_, Lib.hid (at1_any wr r h p (by rw [hb.cell hp]; exact hc) (by have := hb.size; omega)), Lib.hid rfl⟩
      obtain ⟨ra, rb, rc, rd⟩ := r
      have HRA : Hid (∀ j v, [Value.int .i64 ra, .int .i64 rb, .int .i64 rc, .int .i64 rd][j]? = some v → wr.cell? ((ad.add (k * 4)).add j) = some v) := Lib.hid hra
      have HRK := Lib.hid hrk
      clear hra hrk hb
      go_wp2_with (first
        | (go_at_call 37; refine HO.out.mono ?_; rintro e w' ⟨rfl, hb2⟩)
        | (refine wpList_load_at rfl 31 _ rfl _ rfl [Value.int .i64 ra, .int .i64 rb, .int .i64 rc, .int .i64 rd] _ HRA.out Try.underlying31 rfl (by kernel_rfl) ?_))
      · refine hide_out HQ0 ?_
        go_wp2
        go_ret
        have hq : has h ⟨ra, rb, rc, rd⟩ = true := by rw [HQ.out]; assumption
        refine ⟨?_, HB.out.trans (hb2.mono HB.out.size)⟩
        unfold idxL
        rw [findIdx_go HRK.out HN.out hq] <;> rfl
      · refine hide_out HQ0 ?_
        go_step
        go_roundw
        case rel =>
          have hq : has h ⟨ra, rb, rc, rd⟩ = false := by rw [HQ.out]; assumption
          refine ⟨k + 1, by omega, by go_num, fun j x hj hx => ?_, HB.out.trans (hb2.mono HB.out.size)⟩
          by_cases e : j = k
          · subst e
            have := HRK.out; rw [hx] at this; injection this with this; rw [this]; exact hq
          · exact HN.out j x (by omega) hx
        case measure => simp [intOf]; omega
    · obtain rfl : n = k := by omega
      have HE : Hid (idxL l h = -1) := Lib.hid (by unfold idxL; rw [findIdx_none (fun j x hj hx => HN.out j x (by have := HL.out; omega) hx)])
      go_wp2
      refine hide_out HQ0 ?_
      go_wp2
      go_ret
      exact ⟨by rw [HE.out] <;> rfl, HB.out⟩
end Go.Proofs.Ytbgnmkjjfaepiaa
