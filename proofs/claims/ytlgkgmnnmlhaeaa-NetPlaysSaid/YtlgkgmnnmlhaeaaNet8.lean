import Derived.Test.YtlgkgmnnmlhaeaaNet7
namespace Go.Proofs.Ytlgkgmnnmlhaeaa
open Go.RowKit
set_option linter.unusedVariables false

theorem own_reads_in {w : World} {base s n c B : Nat} {e : TypeId} {A : Option Addr} {xs : List Value} (h : w.ownsRow base e s (.slice A n c) n xs) (hB : ∀ g, (Value.slice A n c).ownBlock = some g → g < B) : Reads w B s A n xs := by
  refine ⟨h.1, fun hn => ?_⟩
  obtain ⟨g, c', e1, _, _, _, _, hgo⟩ := own_head (Or.inl h) hn
  injection e1 with e1 e2 e3
  subst e1
  exact ⟨⟨g, 0, none⟩, rfl, hB g rfl, fun j u hu => by rw [Addr.add_mid, Nat.zero_add]; exact (own_cell hgo hu).1⟩

section
variable (B : Nat) (w : World) (a : Nat) (v : Value) (vs : List PkV) (ps : List Pk) (hN : NetAt B w a v vs ps) (hps : ps.length ≤ 200) (hB : B ≤ w.heap.size)
include hN hps hB
set_option maxRecDepth 100000 in
set_option maxHeartbeats 4000000 in
theorem twice_some (k : Nat) (z : Int) (hz : z = (k : Int)) (p : Pk) (hk : ps[k]? = some p) (hpl : p.b.length ≤ 131072) : Calls Try.prog 14 #[.pointer (some ⟨a, 0, none⟩), .int .i64 z] w fun e w' => e = .returned (.bool (mayL ps.length p)) ∧ NetNow B w a v (sendL ps [p]) w' := by
  subst hz
  have HP := Lib.hid (peek_some B w a v vs ps hN hps k p hk hpl)
  have HN := Lib.hid hN
  obtain ⟨r, HR⟩ : ∃ r, Hid (mayL ps.length p = r) := ⟨_, Lib.hid rfl⟩
  have HSL : Hid ((sendL ps [p]).length - ps.length = if r then 1 else 0) := Lib.hid (by
    rw [sendL, HR.out]; cases r <;> simp [sendL])
  obtain ⟨f, t, b⟩ := p
  rw [HR.out]
  have HPL := Lib.hid hpl
  clear hN hk hpl
  go_enter Try.func14, Try.ntmps14
  go_upto_region 2 with (go_at_call 16; ((with_reducible refine HP.out.mono ?_); rintro e w2 ⟨A2, c2, rfl, ho2, hc2, hm2, hb2⟩))
  have hsz2 := hb2.size
  have HW : Hid (Below w.heap.size w (w2.alloc (.cells #[.int .i64 f, .int .i64 t, .slice A2 b.length c2] 31)) ∧ (w2.alloc (.cells #[.int .i64 f, .int .i64 t, .slice A2 b.length c2] 31)).rangeAt w2.heap.size 0 [.int .i64 f, .int .i64 t, .slice A2 b.length c2] ∧ (w2.alloc (.cells #[.int .i64 f, .int .i64 t, .slice A2 b.length c2] 31)).ownsRow w.heap.size 5 1 (.slice A2 b.length c2) b.length (bc b)) := Lib.hid
    ⟨hb2.alloc hb2.size _, range_new w2 [.int .i64 f, .int .i64 t, .slice A2 b.length c2] _, ho2.kept (World.grownBy_alloc w2 _ none) (own_or _)⟩
  clear ho2 hc2 hb2
  generalize (w2.alloc (.cells #[.int .i64 f, .int .i64 t, .slice A2 b.length c2] 31)) = W3 at *
  generalize w2.heap.size = b5 at *
  have HS : Hid (Calls Try.prog 9 #[.pointer (some ⟨a, 0, none⟩), .slice (some ⟨W3.heap.size, 0, none⟩) 1 1] (W3.alloc (.cells #[.int .i64 f, .int .i64 t, .slice A2 b.length c2] 31)) fun e w' =>
      e = .returned (.int .i64 (if r then 1 else 0)) ∧ NetNow B w a v (sendL ps [⟨f, t, b⟩]) w') := Lib.hid (by
    have hb4 : Below w.heap.size w (W3.alloc (.cells #[.int .i64 f, .int .i64 t, .slice A2 b.length c2] 31)) := HW.out.1.alloc HW.out.1.size _
    have r4 : (W3.alloc (.cells #[.int .i64 f, .int .i64 t, .slice A2 b.length c2] 31)).rangeAt W3.heap.size 0 [.int .i64 f, .int .i64 t, .slice A2 b.length c2] := range_new W3 [.int .i64 f, .int .i64 t, .slice A2 b.length c2] _
    have o4 : (W3.alloc (.cells #[.int .i64 f, .int .i64 t, .slice A2 b.length c2] 31)).ownsRow w.heap.size 5 1 (.slice A2 b.length c2) b.length (bc b) := HW.out.2.2.kept (World.grownBy_alloc W3 _ none) (own_or _)
    have s4 : (W3.alloc (.cells #[.int .i64 f, .int .i64 t, .slice A2 b.length c2] 31)).heap.size = W3.heap.size + 1 := alloc_size _ _
    have s3 := HW.out.1.size
    generalize (W3.alloc (.cells #[.int .i64 f, .int .i64 t, .slice A2 b.length c2] 31)) = W4 at *
    have n4 : NetAt B W4 a v vs ps := HN.out.grow hb4
    have hfoot : ∀ q, w.heap.size ≤ q → ¬ foot a v q := fun q hq hf => Or.elim hf (fun e => by have := HN.out.lt; omega) (fun e => by have := (HN.out.row.lt q e).2; omega)
    refine (send_any B W4 a v vs ps n4 (by omega) hps (some ⟨W3.heap.size, 0, none⟩) 1 1 [⟨f, t, .slice A2 b.length c2⟩] [⟨f, t, b⟩] (fun W' hk => ⟨?_, ?_⟩) rfl rfl (by omega)).mono ?_
    · exact reads_of_range (kept_range hk r4 (by omega) (hfoot _ (by omega))) rfl (by omega)
    · intro i u q h1 h2
      cases i with
      | zero =>
        simp at h1 h2
        subst h1 h2
        refine ⟨rfl, rfl, _, _, rfl, by have := HPL.out; simp only at this ⊢; omega, own_reads_in (hk.own o4 (fun g hg => hfoot g (o4.lt g hg).1)) (fun g hg => (o4.lt g hg).2)⟩
      | succ i => simp at h1
    · rintro e w' ⟨he, v', vs', h1, h2, h3⟩
      refine ⟨?_, v', vs', h1, (Kept.of_below hb4 : Kept (foot a v) w W4).trans h2 (fun _ _ h => h), fun g hg => ?_⟩
      · rw [he, HSL.out]; cases r <;> rfl
      · rcases h3 g hg with h | h
        · exact .inl h
        · right; omega)
  cases r
  all_goals
    go_wp2_with (first
      | (refine wpList_unguard rfl ?_)
      | (refine wpList_load_mid rfl 31 _ rfl b5 0 rfl [.int .i64 f, .int .i64 t, .slice A2 b.length c2] _ HW.out.2.1 Try.underlying31 rfl (by kernel_rfl) ?_)
      | (go_at_call 9; refine HS.out.mono ?_; rintro e w5 ⟨rfl, hn5⟩))
    go_ret
    exact ⟨rfl, hn5⟩
end
end Go.Proofs.Ytlgkgmnnmlhaeaa
