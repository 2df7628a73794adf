import Derived.Test.YtbgnmkjjfaepiaaRingFind2
import Derived.Test.YtbgnmkjjfaepiaaBitsHash
namespace Go.Proofs.Ytbgnmkjjfaepiaa
open Go.RowKit
set_option linter.unusedVariables false
section
variable (w : World) (A : Option Addr) (n c : Nat) (l : List Rg) (s : ByteArray) (hr : Reads w w.heap.size 4 A n (rowCells l)) (hw : ∀ r ∈ l, r.wf) (hl : l.length = n) (hn : n ≤ maxLen) (hs : s.size ≤ maxLen)
include hr hw hl hn hs

set_option maxRecDepth 100000 in
set_option maxHeartbeats 4000000 in
theorem of_any : Calls Try.prog 16 #[.slice A n c, .string s] w (RetF w (findL l (hashL s.data.toList))) := by
  have hh := hashL_lt s.data.toList
  have HH : Hid (∀ W, Calls Try.prog 30 #[.string s] W fun e w' => e = .returned (.int .u32 (hashL s.data.toList)) ∧ W = w') := Lib.hid fun W => hash_any s W hs
  generalize hashL s.data.toList = h at *
  obtain ⟨r, q, HQ⟩ : ∃ r q, Hid ((findL l h).getD zeroR = r ∧ (findL l h).isSome = q) := ⟨_, _, Lib.hid ⟨rfl, rfl⟩⟩
  obtain ⟨ra, rb, rc, rd⟩ := r
  have HF : Hid (∀ W, Below w.heap.size w W → Calls Try.prog 14 #[.slice A n c, .int .i64 h] W fun e w' => e = .returned (.tuple #[.agg #[.int .i64 ra, .int .i64 rb, .int .i64 rc, .int .i64 rd], .bool q]) ∧ Below W.heap.size W w') :=
    Lib.hid fun W hb => by
      have := find_any W A n c l h ((hr.below hb).more hb.size) hw hl hn
      unfold RetF at this
      rw [HQ.out.1, HQ.out.2] at this
      exact this
  clear hr hw hl
  go_enter Try.func16, Try.ntmps16
  go_wp2_with (first
    | (go_at_call 30; refine (HH.out _).mono ?_; rintro e w' ⟨rfl, rfl⟩)
    | (go_at_call 14; refine (HF.out _ ((Below.refl _ _).alloc (Nat.le_refl _) _)).mono ?_; rintro e w' ⟨rfl, hb2⟩)
    | (refine wpList_store_mid rfl 31 _ _ rfl w.heap.size 0 (Rg.cells ⟨ra, rb, rc, rd⟩).toArray rfl rfl (there_below (there_new w (Rg.cells zeroR) 31) hb2 (by rw [alloc_size]; omega)) (by kernel_rfl) (all_oneCell_toArray (Rg.cells_one _)) ?_))
  have HT := there_below (there_new w (Rg.cells zeroR) 31) hb2 (by rw [alloc_size]; omega)
  refine ret_cell 4 5 31 rfl w.heap.size (Rg.cells ⟨ra, rb, rc, rd⟩) _ rfl (World.rangeAt_setCells_same _ _ _ _ HT) Try.underlying31 rfl (by kernel_rfl) rfl ?_
  exact ⟨by rw [HQ.out.1, HQ.out.2] <;> rfl, Below.setCells _ (Nat.le_refl _) _ _ (((Below.refl _ _).alloc (Nat.le_refl _) _).trans (hb2.mono (by rw [alloc_size]; omega)))⟩

set_option maxRecDepth 100000 in
set_option maxHeartbeats 4000000 in
theorem ofR_any : Calls Try.prog 17 #[.slice A n c, .string s] w (RetF w (findL l (hashL s.data.toList))) := by
  have hh := hashL_lt s.data.toList
  have HH : Hid (∀ W, Calls Try.prog 31 #[.string s] W fun e w' => e = .returned (.int .i64 (hashL s.data.toList)) ∧ W = w') := Lib.hid fun W => refHash_any s W hs
  generalize hashL s.data.toList = h at *
  obtain ⟨r, q, HQ⟩ : ∃ r q, Hid ((findL l h).getD zeroR = r ∧ (findL l h).isSome = q) := ⟨_, _, Lib.hid ⟨rfl, rfl⟩⟩
  obtain ⟨ra, rb, rc, rd⟩ := r
  have HF : Hid (∀ W, Below w.heap.size w W → Calls Try.prog 15 #[.slice A n c, .int .i64 h] W fun e w' => e = .returned (.tuple #[.agg #[.int .i64 ra, .int .i64 rb, .int .i64 rc, .int .i64 rd], .bool q]) ∧ Below W.heap.size W w') :=
    Lib.hid fun W hb => by
      have := findR_any W A n c l h ((hr.below hb).more hb.size) hw hl hn
      unfold RetF at this
      rw [HQ.out.1, HQ.out.2] at this
      exact this
  clear hr hw hl
  go_enter Try.func17, Try.ntmps17
  go_wp2_with (first
    | (go_at_call 31; refine (HH.out _).mono ?_; rintro e w' ⟨rfl, rfl⟩)
    | (go_at_call 15; refine (HF.out _ ((Below.refl _ _).alloc (Nat.le_refl _) _)).mono ?_; rintro e w' ⟨rfl, hb2⟩)
    | (refine wpList_store_mid rfl 31 _ _ rfl w.heap.size 0 (Rg.cells ⟨ra, rb, rc, rd⟩).toArray rfl rfl (there_below (there_new w (Rg.cells zeroR) 31) hb2 (by rw [alloc_size]; omega)) (by kernel_rfl) (all_oneCell_toArray (Rg.cells_one _)) ?_))
  have HT := there_below (there_new w (Rg.cells zeroR) 31) hb2 (by rw [alloc_size]; omega)
  refine ret_cell 4 5 31 rfl w.heap.size (Rg.cells ⟨ra, rb, rc, rd⟩) _ rfl (World.rangeAt_setCells_same _ _ _ _ HT) Try.underlying31 rfl (by kernel_rfl) rfl ?_
  exact ⟨by rw [HQ.out.1, HQ.out.2] <;> rfl, Below.setCells _ (Nat.le_refl _) _ _ (((Below.refl _ _).alloc (Nat.le_refl _) _).trans (hb2.mono (by rw [alloc_size]; omega)))⟩
end
end Go.Proofs.Ytbgnmkjjfaepiaa
