/- What every row's step of this seat shares: the program's knob and layout; a slice of bytes that came in, opened. No condition. -/
import Derived.Test.YtchhejheobceiaaBase
import Derived.Test.YtchhejheobceiaaRows
import Derived.WalkKit
import Derived.ProofKit
import Derived.OpenShut
import Derived.ShutString
import Derived.ChangeOld
import Derived.Below
namespace Go.Proofs.Ytchhejheobceiaa
open Go.ChangeShapes Go.WideShapes Go.ChangeAt Go.RowKit
open Go.ChangeMaps (open_string shut_string)

theorem own : ownKnob Try.prog.godebug = none := by kernel_rfl
theorem laidOut : laidOutB Try.prog = true := by kernel_rfl

theorem reads_ints {w : World} {x : Addr} {len cap : Nat} {zs : List Int} (hl : len ≤ cap) (hz : zs.length = cap)
    (hcell : ∀ i, i < zs.length → w.cell? (x.add i) = some (.int .u8 (zs.getD i 0))) (hwz : ∀ n ∈ zs, (Lit.int .u8 n).wf = true) :
    ∃ bs : List UInt8, Reads w w.heap.size 1 (some x) len (bc bs) := by
  refine ⟨(zs.take len).map fun n => UInt8.ofNat n.toNat, by rw [bc_length]; simp; omega, fun h0 => ⟨x, rfl, ?_, fun j u hu => ?_⟩⟩
  · have h := World.block_lt_of_cell? w _ (hcell 0 (by omega))
    rwa [block_of_add] at h
  · obtain ⟨b, hb, rfl⟩ := bc_get hu
    rw [List.getElem?_map, Option.map_eq_some_iff] at hb
    obtain ⟨z, hz', rfl⟩ := hb
    have hj : j < len := by
      have := (List.getElem?_eq_some_iff.1 hz').1
      simp at this; omega
    have hzj : zs[j]? = some z := by rw [List.getElem?_take, if_pos hj] at hz'; exact hz'
    rw [hcell j (by omega)]
    have hw := hwz z (List.mem_of_getElem? hzj)
    have hbd : 0 ≤ z ∧ z ≤ 255 := by
      simp [Lit.wf, IntKind.min, IntKind.max, IntKind.signed, IntKind.bits] at hw
      omega
    have e : zs.getD j 0 = z := by simp [List.getD, hzj]
    rw [e]
    congr 2
    simp [UInt8.toNat_ofNat']
    omega

/-- A slice of bytes that came in. -/
theorem open_bytes {H : Type} {enc : TypeId × Value → H} {P : Program} {W : World} {t e : TypeId} {A : Option Addr} {n c : Nat} {d : DataW H} {p : List MemPlace}
    (ht : P.underlying t = some (.slice e)) (he : P.underlying e = some (.int .u8)) (hc : P.cellsOf e = 1)
    (h : DataW.Trod enc P W 0 (fun _ => true) true t (.slice A n c) d p) : ∃ l : List UInt8, Reads W W.heap.size 1 A n (bc l) ∧ n ≤ c ∧ c ≤ maxLen := by
  obtain ⟨fuel, hf⟩ := h
  rcases open_ints ht he hc hf with ⟨hcs, _⟩ | ⟨x, l, cap, zs, hcs, _, hl, hm, hz, _, hcell, hwz⟩
  · simp [Value.cells] at hcs
    obtain ⟨rfl, rfl, rfl⟩ := hcs
    exact ⟨[], Reads.none_, Nat.le_refl _, Nat.zero_le _⟩
  · simp [Value.cells] at hcs
    obtain ⟨rfl, rfl, rfl⟩ := hcs
    obtain ⟨bs, hb⟩ := reads_ints hl (by simpa using hz) hcell hwz
    exact ⟨bs, hb, hl, hm⟩
end Go.Proofs.Ytchhejheobceiaa
