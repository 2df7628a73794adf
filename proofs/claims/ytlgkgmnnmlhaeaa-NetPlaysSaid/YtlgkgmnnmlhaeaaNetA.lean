import Derived.Test.YtlgkgmnnmlhaeaaNet9
namespace Go.Proofs.Ytlgkgmnnmlhaeaa
open Go.RowKit
set_option linter.unusedVariables false

def hitB (d : Int) (x : PkV) : Bool := decide (x.f = d) || decide (x.t = d)
def RetB (w : World) (b : Bool) (e : Ending) (w' : World) : Prop := e = .returned (.bool b) ∧ Below w.heap.size w w'
def RetI (w : World) (n : Int) (e : Ending) (w' : World) : Prop := e = .returned (.int .i64 n) ∧ Below w.heap.size w w'
set_option maxRecDepth 100000 in
theorem hit_any (w : World) (x : PkV) (d : Int) (p : Addr) (hc : w.cell? p = some (.int .i64 d)) (hp : p.block < w.heap.size) :
    Calls Try.prog 30 #[.agg #[.int .i64 x.f, .int .i64 x.t, x.v], .pointer (some p)] w (RetB w (hitB d x)) := by
  obtain ⟨f, t, v⟩ := x
  simp only
  have hc' : (w.alloc (.cells #[.int .i64 f, .int .i64 t, v] 31)).cell? p = some (.int .i64 d) := by rw [World.cell?_alloc_lt _ _ _ hp]; exact hc
  by_cases e1 : f = d
  · have HE : Hid (hitB d ⟨f, t, v⟩ = true) := Lib.hid (by simp [hitB, e1])
    have e1b : (f == d) = true := by simpa using e1
    have E1 := Lib.hid e1
    clear e1
    go_enter Try.func30, Try.ntmps30
    go_wp2_with (refine wpList_unguard rfl ?_)
    go_ret
    exact ⟨ret_bool HE.out.symm, (Below.refl _ _).alloc (Nat.le_refl _) _⟩
  · have e1b : (f == d) = false := by simpa using e1
    obtain ⟨q, hq⟩ : ∃ q, (t == d) = q := ⟨_, rfl⟩
    have HE : Hid (hitB d ⟨f, t, v⟩ = q) := Lib.hid (by rw [← hq]; simp [hitB, e1]; rfl)
    have E1 := Lib.hid e1
    clear e1
    go_enter Try.func30, Try.ntmps30
    go_wp2_with (refine wpList_unguard rfl ?_)
    go_ret
    exact ⟨ret_bool HE.out.symm, (Below.refl _ _).alloc (Nat.le_refl _) _⟩

def idxL (l : List PkV) (d : Int) : Int := match l.findIdx? (hitB d) with | some i => (i : Int) | none => -1
theorem findIdx_go {l : List PkV} {d : Int} {k : Nat} {r : PkV} (hrk : l[k]? = some r) (hn : ∀ j x, j < k → l[j]? = some x → hitB d x = false) (hh : hitB d r = true) : l.findIdx? (hitB d) = some k := by
  rw [List.findIdx?_eq_some_iff_getElem]
  obtain ⟨hk, he⟩ := List.getElem?_eq_some_iff.1 hrk
  refine ⟨hk, by rw [he]; exact hh, fun j hj => ?_⟩
  rw [hn j _ hj (List.getElem?_eq_getElem (by omega))]
  simp
theorem findIdx_none {l : List PkV} {d : Int} (hn : ∀ j x, j < l.length → l[j]? = some x → hitB d x = false) : l.findIdx? (hitB d) = none := by
  rw [List.findIdx?_eq_none_iff]
  intro x hx
  obtain ⟨j, hj, he⟩ := List.getElem_of_mem hx
  exact hn j x hj (by rw [List.getElem?_eq_getElem hj, he])
set_option maxRecDepth 100000 in
set_option maxHeartbeats 4000000 in
theorem idx_any (w : World) (A : Option Addr) (n c B : Nat) (l : List PkV) (d : Int) (p : Addr) (hr : Reads w B 3 A n (pkCells l)) (hB : B ≤ w.heap.size) (hl : l.length = n) (hn : n ≤ 1000) (hc : w.cell? p = some (.int .i64 d)) (hp : p.block < w.heap.size) :
    Calls Try.prog 33 #[.slice A n c, .func (.func 30) #[] #[.pointer (some p)]] w (RetI w (idxL l d)) := by
  have HL := Lib.hid hl
  have HR := Lib.hid hr
  clear hr
  go_enter Try.func33, Try.ntmps33
  go_wp2
  go_loopw [8] (fun i wr => ∃ k : Nat, k ≤ n ∧ i = .int .i64 k ∧ (∀ j x, j < k → l[j]? = some x → hitB d x = false) ∧ Below w.heap.size w wr) (fun i _ => n - (intOf i).toNat)
  case atStart => exact ⟨0, Nat.zero_le _, rfl, fun j x hj => absurd hj (by omega), Below.refl _ _⟩
  case round =>
    obtain ⟨k, hk, rfl, hnone, hb⟩ := hrel
    have HN := Lib.hid hnone
    have HB := Lib.hid hb
    clear hnone
    refine code_hide (fun Q0 HQ0 => ?_)
    by_cases hlt : k < n
    · obtain ⟨r, hrk⟩ : ∃ r, l[k]? = some r := ⟨_, List.getElem?_eq_getElem (by have := HL.out; omega)⟩
      obtain ⟨ad, rfl, hab, hra⟩ := flat_reads PkV.cells_length (HR.out.keep (w' := wr) (fun q hq => hb.cell (by omega))) hrk hlt
      obtain ⟨q, HO, HQ⟩ : ∃ q, Hid (Calls Try.prog 30 #[.agg #[.int .i64 r.f, .int .i64 r.t, r.v], .pointer (some p)] wr (RetB wr q)) ∧ Hid (hitB d r = q) :=
        ⟨_, Lib.hid (hit_any wr r d p (by rw [hb.cell hp]; exact hc) (by have := hb.size; omega)), Lib.hid rfl⟩
      obtain ⟨rf, rt, rv⟩ := r
      have HRA : Hid (∀ j v, [Value.int .i64 rf, .int .i64 rt, rv][j]? = some v → wr.cell? ((ad.add (k * 3)).add j) = some v) := Lib.hid hra
      have HRK := Lib.hid hrk
      clear hra hrk hb
      go_wp2_with (first
        | (go_at_call 30; refine HO.out.mono ?_; rintro e w' ⟨rfl, hb2⟩)
        | (refine wpList_load_at rfl 31 _ rfl _ rfl [Value.int .i64 rf, .int .i64 rt, rv] _ HRA.out Try.underlying31 rfl (by kernel_rfl) ?_))
      · refine hide_out HQ0 ?_
        go_wp2
        go_ret
        have hq : hitB d ⟨rf, rt, rv⟩ = true := by rw [HQ.out]; assumption
        refine ⟨?_, HB.out.trans (hb2.mono HB.out.size)⟩
        unfold idxL
        rw [findIdx_go HRK.out HN.out hq] <;> rfl
      · refine hide_out HQ0 ?_
        go_step
        go_roundw
        case rel =>
          have hq : hitB d ⟨rf, rt, rv⟩ = false := by rw [HQ.out]; assumption
          refine ⟨k + 1, by omega, by go_num, fun j x hj hx => ?_, HB.out.trans (hb2.mono HB.out.size)⟩
          by_cases e : j = k
          · subst e
            have := HRK.out; rw [hx] at this; injection this with this; rw [this]; exact hq
          · exact HN.out j x (by omega) hx
        case measure => simp [intOf]; omega
    · obtain rfl : n = k := by omega
      have HE : Hid (idxL l d = -1) := Lib.hid (by unfold idxL; rw [findIdx_none (fun j x hj hx => HN.out j x (by have := HL.out; omega) hx)])
      go_wp2
      refine hide_out HQ0 ?_
      go_wp2
      go_ret
      exact ⟨by rw [HE.out] <;> rfl, HB.out⟩
end Go.Proofs.Ytlgkgmnnmlhaeaa
