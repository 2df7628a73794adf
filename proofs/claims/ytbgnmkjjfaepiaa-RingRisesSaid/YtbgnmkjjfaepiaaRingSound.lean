import Derived.Test.YtbgnmkjjfaepiaaRing
namespace Go.Proofs.Ytbgnmkjjfaepiaa
open Go.RowKit
set_option linter.unusedVariables false
set_option maxRecDepth 100000 in
set_option maxHeartbeats 4000000 in
theorem sound_any (w : World) (A : Option Addr) (n c : Nat) (l : List Rg) (hr : Reads w w.heap.size 4 A n (rowCells l)) (hw : ∀ r ∈ l, r.wf) (hl : l.length = n) (hn : n ≤ maxLen) :
    Calls Try.prog 19 #[.slice A n c] w (RetB w (soundL l)) := by
  have HL := Lib.hid hl
  unfold maxLen at hn
  go_enter Try.func19, Try.ntmps19
  go_wp2
  go_loopw [3, 8] (fun nx i wr => ∃ (k : Nat) (x : Int), k ≤ n ∧ i = .int .i64 k ∧ nx = .int .i64 x ∧ 0 ≤ x ∧ x ≤ 4294967296 ∧ soundGo x (l.drop k) = soundGo 0 l ∧ Below w.heap.size w wr) (fun _ i _ => n - (intOf i).toNat)
  case atStart => exact ⟨0, 0, Nat.zero_le _, rfl, rfl, by omega, by omega, rfl, Below.refl _ _⟩
  case round =>
    obtain ⟨k, x, hk, rfl, rfl, hx0, hx1, hs, hb⟩ := hrel
    by_cases hlt : k < n
    · obtain ⟨r, hrk⟩ : ∃ r, l[k]? = some r := ⟨_, List.getElem?_eq_getElem (by have := HL.out; omega)⟩
      obtain ⟨ad, rfl, hab, hra⟩ := (hr.below hb).range hrk hlt
      obtain ⟨ra, rb, rc, rd⟩ := r
      have HRA : Hid (∀ j v, [Value.int .i64 ra, .int .i64 rb, .int .i64 rc, .int .i64 rd][j]? = some v → wr.cell? ((ad.add (k * 4)).add j) = some v) := hra
      clear hra
      go_upto_region 5 with (refine wpList_load_at rfl 31 _ rfl _ rfl [Value.int .i64 ra, .int .i64 rb, .int .i64 rc, .int .i64 rd] _ HRA.out Try.underlying31 rfl (by kernel_rfl) ?_)
      have HRK := Lib.hid hrk
      have HS := Lib.hid hs
      have HB : Hid (Below w.heap.size w (wr.alloc (.cells #[.int .i64 ra, .int .i64 rb, .int .i64 rc, .int .i64 rd] 31))) := hb.alloc hb.size _
      obtain ⟨q, HO, HQ⟩ : ∃ q, Hid (∀ w, Calls Try.prog 32 #[.agg #[.int .i64 ra, .int .i64 rb, .int .i64 rc, .int .i64 rd]] w (RetB w q)) ∧ Hid (ownedL ⟨ra, rb, rc, rd⟩ = q) :=
        ⟨_, fun w => owned_any w ⟨ra, rb, rc, rd⟩, rfl⟩
      clear hrk hs
      by_cases h1 : ra = x
      · subst h1
        by_cases h2 : rb < ra
        · go_wp2_with fail
          go_ret
          exact ⟨by rw [step_bad HRK.out HS.out (fun h => by have := h.2.1; simp only at this; omega)] <;> rfl, HB.out⟩
        have h2' : ra ≤ rb := by omega
        have h2d : decide (rb < ra) = false := by simpa using h2'
        clear h2
        by_cases h3 : 4294967295 < rb
        · go_wp2_with fail
          go_ret
          exact ⟨by rw [step_bad HRK.out HS.out (fun h => by have := h.2.2.1; simp only at this; omega)] <;> rfl, HB.out⟩
        have h3' : rb ≤ 4294967295 := by omega
        have h3d : decide (4294967295 < rb) = false := by simpa using h3'
        clear h3
        go_wp2_with fail
        refine (HO.out _).mono ?_
        rintro e w' ⟨rfl, hb2⟩
        have hc1 : w'.cell? ⟨wr.heap.size, 1, none⟩ = some (.int .i64 rb) := by
          rw [hb2.cell (by rw [alloc_size]; exact Nat.lt_succ_self _)]
          exact World.cell?_alloc_at _ _ _ _ rfl
        go_wp2_with fail
        · go_ret
          have hq : q = false := by
            cases q
            · rfl
            · exact absurd ‹(!true) = true› (by decide)
          subst hq
          exact ⟨by rw [step_bad HRK.out HS.out (fun h => by have := h.2.2.2; rw [HQ.out] at this; cases this)] <;> rfl, HB.out.trans (hb2.mono HB.out.size)⟩
        · go_roundw
          case rel =>
            have hq : q = true := by
              cases q
              · exact absurd ‹(!false) = false› (by decide)
              · rfl
            subst hq
            exact ⟨k + 1, rb + 1, by omega, by go_num, rfl, by omega, by omega, step_ok HRK.out HS.out ⟨rfl, h2', h3', HQ.out⟩, HB.out.trans (hb2.mono HB.out.size)⟩
          case measure => simp [intOf]; omega
      · have h1b : (ra == x) = false := by simpa using h1
        go_wp2_with fail
        go_ret
        exact ⟨by rw [step_bad HRK.out HS.out (fun h => h1 h.1)] <;> rfl, HB.out⟩
    · obtain rfl : n = k := by omega
      have HE := Lib.hid (step_end hs HL.out)
      clear hs
      by_cases h1 : x = 4294967296
      · subst h1
        by_cases h2 : n ≤ 64
        · have h2i : (n : Int) ≤ 64 := by omega
          go_wp2
          go_ret
          exact ⟨by rw [HE.out]; simp [h2], hb⟩
        · have h2i : (64 : Int) < n := by omega
          go_wp2
          go_ret
          exact ⟨by rw [HE.out]; simp [h2]; omega, hb⟩
      · have h1b : (x == 4294967296) = false := by simpa using h1
        go_wp2
        go_ret
        exact ⟨by rw [HE.out]; simp [h1b], hb⟩
end Go.Proofs.Ytbgnmkjjfaepiaa
