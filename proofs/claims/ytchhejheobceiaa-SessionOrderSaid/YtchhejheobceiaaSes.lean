/- A session in memory; gone, New, Waiting, Peer. No condition. -/
import Derived.Test.YtchhejheobceiaaRow
import Derived.Test.YtchhejheobceiaaBitsVar
import Derived.Test.YtchhejheobceiaaFramePut
import Derived.Test.YtchhejheobceiaaUnvar
import Derived.Test.YtchhejheobceiaaFrameNext
namespace Go.Proofs.Ytchhejheobceiaa
open Go.RowKit
set_option linter.unusedVariables false

structure Se where
  life : Nat
  peer : Nat
  took : Nat
  first : Nat
  wait : List (List UInt8)
def Se.cells (s : Se) (v : Value) : List Value := [.int .i64 s.life, .int .i64 s.peer, .int .i64 s.took, .int .i64 s.first, v]
/-- The value is bytes of somebody's own. -/
def OwnB (w : World) (b : Nat) (u : Value) (m : List UInt8) : Prop := Row w b 5 u m.length (bc m)
structure OwnBs (w : World) (b : Nat) (vs : List Value) (ms : List (List UInt8)) : Prop where
  len : vs.length = ms.length
  at_ : ∀ (i : Nat) (u : Value) (m : List UInt8), vs[i]? = some u → ms[i]? = some m → OwnB w b u m
/-- Far: no number of a session is larger. -/
structure Se.Ok (s : Se) : Prop where
  life : 1 ≤ s.life ∧ s.life ≤ 1099511627776
  peer : s.peer ≤ 1099511627776
  took : s.took ≤ 2000000000000
  first : 1 ≤ s.first ∧ s.first ≤ 2000000000000
  wait : s.wait.length ≤ 200
  msg : ∀ m ∈ s.wait, m.length ≤ 65536
structure SesAt (B : Nat) (w : World) (a : Nat) (v : Value) (vs : List Value) (s : Se) : Prop where
  lo : B ≤ a
  cell : w.heap[a]? = some (.cells #[.int .i64 s.life, .int .i64 s.peer, .int .i64 s.took, .int .i64 s.first, v] 47 (0, 0))
  row : Row w B 30 v s.wait.length vs
  msgs : OwnBs w 0 vs s.wait
section
variable {B : Nat} {w w1 : World} {a : Nat} {v : Value} {vs : List Value} {s : Se}
theorem SesAt.lt (h : SesAt B w a v vs s) : a < w.heap.size := (Array.getElem?_eq_some_iff.1 h.cell).1
theorem OwnB.keep {S : Nat → Prop} {b : Nat} {u : Value} {m : List UInt8} (h : OwnB w b u m) (hk : Kept S w w1) (hS : ∀ g c, w.heap[g]? = some (.cells c 5 (0, 0)) → ¬ S g) : OwnB w1 b u m :=
  Row.keep h hk fun g hg => by
    obtain ⟨c, hc⟩ := Row.block h hg
    exact hS g c hc
theorem OwnBs.keep {S : Nat → Prop} {b : Nat} {us : List Value} {ms : List (List UInt8)} (h : OwnBs w b us ms) (hk : Kept S w w1) (hS : ∀ g c, w.heap[g]? = some (.cells c 5 (0, 0)) → ¬ S g) : OwnBs w1 b us ms :=
  ⟨h.len, fun i u m h1 h2 => (h.at_ i u m h1 h2).keep hk hS⟩
theorem SesAt.keep {S : Nat → Prop} (h : SesAt B w a v vs s) (hk : Kept S w w1) (ha : ¬ S a) (hv : ∀ g, v.ownBlock = some g → ¬ S g) (hb : ∀ g c, w.heap[g]? = some (.cells c 5 (0, 0)) → ¬ S g) : SesAt B w1 a v vs s :=
  ⟨h.lo, by rw [hk.block a h.lt ha]; exact h.cell, h.row.keep hk hv, h.msgs.keep hk hb⟩
theorem SesAt.grow (h : SesAt B w a v vs s) (hb : Below w.heap.size w w1) : SesAt B w1 a v vs s := h.keep (S := fun _ => False) (.of_below hb) id (fun _ _ => id) (fun _ _ _ => id)
theorem SesAt.cells_ (h : SesAt B w a v vs s) : w.cell? ⟨a, 0, none⟩ = some (.int .i64 s.life) ∧ w.cell? ⟨a, 1, none⟩ = some (.int .i64 s.peer) ∧ w.cell? ⟨a, 2, none⟩ = some (.int .i64 s.took) ∧ w.cell? ⟨a, 3, none⟩ = some (.int .i64 s.first) ∧ w.cell? ⟨a, 4, none⟩ = some v :=
  ⟨by rw [cell_of_row w a 0 _ _ (0, 0) h.cell]; rfl, by rw [cell_of_row w a 1 _ _ (0, 0) h.cell]; rfl, by rw [cell_of_row w a 2 _ _ (0, 0) h.cell]; rfl, by rw [cell_of_row w a 3 _ _ (0, 0) h.cell]; rfl, by rw [cell_of_row w a 4 _ _ (0, 0) h.cell]; rfl⟩
theorem SesAt.free (h : SesAt B w a v vs s) (j : Nat) : w.frozen? ⟨a, j, none⟩ = false := by simp [World.frozen?, h.cell]
end
def foot (a : Nat) (v : Value) (k : Nat) : Prop := k = a ∨ v.ownBlock = some k

set_option maxRecDepth 100000 in
theorem gone_no (w : World) (a : Nat) (l : Nat) (hl : 1 ≤ l) (hc : w.cell? ⟨a, 0, none⟩ = some (.int .i64 l)) : Calls Try.prog 18 #[.pointer (some ⟨a, 0, none⟩)] w fun e w' => e = .returned (.bool false) ∧ w = w' := by
  have h0 : ((l : Int) == 0) = false := by simp; omega
  go_enter Try.func18, Try.ntmps18
  go_wp2_with (refine wpList_unguard rfl ?_)
  go_ret
  exact ⟨rfl, rfl⟩
set_option maxRecDepth 100000 in
theorem gone_nil (w : World) : Calls Try.prog 18 #[.pointer none] w fun e w' => e = .returned (.bool true) ∧ w = w' := by
  go_enter Try.func18, Try.ntmps18
  go_wp2_with (refine wpList_unguard rfl ?_)
  go_ret
  exact ⟨rfl, rfl⟩
set_option maxRecDepth 100000 in
theorem waiting_nil (w : World) : Calls Try.prog 11 #[.pointer none] w fun e w' => e = .returned (.int .i64 0) ∧ w = w' := by
  go_enter Try.func11, Try.ntmps11
  go_wp2_with (go_at_call 18; ((with_reducible refine (gone_nil _).mono ?_); rintro e w' ⟨rfl, rfl⟩))
  go_ret
  exact ⟨rfl, rfl⟩
set_option maxRecDepth 100000 in
theorem tick_nil (w : World) : Calls Try.prog 17 #[.pointer none] w fun e w' => e = .returned (.slice none 0 0) ∧ w = w' := by
  go_enter Try.func17, Try.ntmps17
  go_wp2_with (go_at_call 18; ((with_reducible refine (gone_nil _).mono ?_); rintro e w' ⟨rfl, rfl⟩))
  go_ret
  exact ⟨rfl, rfl⟩
set_option maxRecDepth 100000 in
theorem send_nil (w : World) (A : Option Addr) (n c : Nat) : Calls Try.prog 8 #[.pointer none, .slice A n c] w fun e w' => e = .returned (.tuple #[.slice none 0 0, .int .i64 1]) ∧ w = w' := by
  go_enter Try.func8, Try.ntmps8
  go_wp2_with (go_at_call 18; ((with_reducible refine (gone_nil _).mono ?_); rintro e w' ⟨rfl, rfl⟩))
  go_ret2
  exact ⟨rfl, rfl⟩
section
variable {B : Nat} {w : World} {a : Nat} {v : Value} {vs : List Value} {s : Se} (h : SesAt B w a v vs s) (hok : s.Ok)
include h hok
set_option maxRecDepth 100000 in
theorem waiting_any : Calls Try.prog 11 #[.pointer (some ⟨a, 0, none⟩)] w fun e w' => e = .returned (.int .i64 s.wait.length) ∧ w = w' := by
  obtain ⟨c0, _, _, _, c4⟩ := h.cells_
  have HG := Lib.hid (gone_no w a s.life hok.life.1 c0)
  obtain ⟨A, c, hv, _⟩ := h.row.form
  have hw := hok.wait
  subst hv
  generalize s.wait.length = n at *
  clear h hok
  go_enter Try.func11, Try.ntmps11
  go_wp2_with (go_at_call 18; ((with_reducible refine HG.out.mono ?_); rintro e w' ⟨rfl, rfl⟩))
  go_ret
  exact ⟨rfl, rfl⟩
set_option maxRecDepth 100000 in
theorem peer_any : Calls Try.prog 10 #[.pointer (some ⟨a, 0, none⟩)] w fun e w' => e = .returned (.int .i64 s.peer) ∧ w = w' := by
  obtain ⟨c0, c1, _, _, _⟩ := h.cells_
  have HG := Lib.hid (gone_no w a s.life hok.life.1 c0)
  clear h hok
  go_enter Try.func10, Try.ntmps10
  go_wp2_with (go_at_call 18; ((with_reducible refine HG.out.mono ?_); rintro e w' ⟨rfl, rfl⟩))
  go_ret
  exact ⟨rfl, rfl⟩
end
def newSe (l : Nat) : Se := ⟨l, 0, 0, 1, []⟩
theorem newSe_ok {l : Nat} (h1 : 1 ≤ l) (h2 : l ≤ 1099511627776) : (newSe l).Ok := ⟨⟨h1, h2⟩, Nat.zero_le _, Nat.zero_le _, ⟨Nat.le_refl _, by show 1 ≤ 2000000000000; omega⟩, Nat.zero_le _, fun m h => by cases h⟩
set_option maxRecDepth 100000 in
theorem new_yes (w : World) (z : Int) (l : Nat) (hz : z = (l : Int)) (h1 : 1 ≤ l) (h2 : l ≤ 1099511627776) : Calls Try.prog 7 #[.int .i64 z] w fun e w' => e = .returned (.tuple #[.pointer (some ⟨w.heap.size, 0, none⟩), .int .i64 0]) ∧ SesAt w.heap.size w' w.heap.size (.slice none 0 0) [] (newSe l) ∧ Below w.heap.size w w' ∧ w'.heap.size = w.heap.size + 1 := by
  subst hz
  have d1 : decide ((l : Int) < 1) = false := by simp; omega
  have d2 : decide ((1099511627776 : Int) < (l : Int)) = false := by simp; omega
  go_enter Try.func7, Try.ntmps7
  go_wp2_with (refine wpList_unguard rfl ?_)
  go_ret2
  exact ⟨rfl, ⟨Nat.le_refl _, heap_alloc_new w _, Row.nil_ _ _ _, ⟨rfl, fun i u m h => by simp at h⟩⟩, (Below.refl _ _).alloc (Nat.le_refl _) _, alloc_size _ _⟩
set_option maxRecDepth 100000 in
theorem new_no (w : World) (z : Int) (hz : z < 1 ∨ 1099511627776 < z) : Calls Try.prog 7 #[.int .i64 z] w fun e w' => e = .returned (.tuple #[.pointer none, .int .i64 1]) ∧ w = w' := by
  have hways : z < 1 ∨ (decide (z < 1) = false ∧ 1099511627776 < z) := by
    by_cases h : z < 1
    · exact .inl h
    · exact .inr ⟨by simpa using h, by omega⟩
  clear hz
  rcases hways with d1 | ⟨d1, d2⟩
  all_goals
    go_enter Try.func7, Try.ntmps7
    go_wp2_with (refine wpList_unguard rfl ?_)
    go_ret2
    exact ⟨rfl, rfl⟩
end Go.Proofs.Ytchhejheobceiaa
