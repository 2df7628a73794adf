import Derived.Test.YtlgkgmnnmlhaeaaNet5
import Derived.Lib.SlBytesConst
namespace Go.Proofs.Ytlgkgmnnmlhaeaa
open Go.RowKit
set_option linter.unusedVariables false

def RetTrue (w : World) (e : Ending) (w' : World) : Prop := e = .returned (.bool true) ∧ Below w.heap.size w w'
theorem RetTrue.from {w w1 : World} {e : Ending} {w' : World} (hb : Below w.heap.size w w1) (h : RetTrue w1 e w') : RetTrue w e w' :=
  ⟨h.1, hb.trans (h.2.mono hb.size)⟩
theorem reads_of_range {w : World} {B X s n : Nat} {cs : List Value} (h : w.rangeAt X 0 cs) (hl : cs.length = n * s) (hX : X < B) : Reads w B s (some ⟨X, 0, none⟩) n cs :=
  ⟨hl, fun _ => ⟨_, rfl, hX, fun j u hu => by rw [Addr.add_mid]; exact h j u hu⟩⟩
theorem net_new (w : World) : NetAt w.heap.size (w.alloc (.cells #[.slice none 0 0] 27)) w.heap.size (.slice none 0 0) [] [] :=
  ⟨Nat.le_refl _, heap_alloc_new w _, World.ownsRow_nil _ _ _ _, rfl, fun i x p h => by simp at h⟩

section
variable (B : Nat) (w : World) (a : Nat) (v : Value) (vs : List PkV) (ps : List Pk) (hN : NetAt B w a v vs ps) (hB : B ≤ w.heap.size) (hps : ps.length ≤ 200)
include hN hB hps
/-- One packet of one byte is sent. -/
theorem send_one (f t : Int) (x : UInt8) (z : Int) (hz : z = (x.toNat : Int)) :
    Calls Try.prog 9 #[.pointer (some ⟨a, 0, none⟩), .slice (some ⟨w.heap.size + 1, 0, none⟩) 1 1] ((w.alloc (.cells #[.int .u8 z] 5)).alloc (.cells #[.int .i64 f, .int .i64 t, .slice (some ⟨w.heap.size, 0, none⟩) 1 1] 31)) fun e w' =>
      e = .returned (.int .i64 (((sendL ps [⟨f, t, [x]⟩]).length - ps.length : Nat) : Int)) ∧ NetNow B w a v (sendL ps [⟨f, t, [x]⟩]) w' := by
  subst hz
  have hb : Below w.heap.size w ((w.alloc (.cells #[.int .u8 (x.toNat : Int)] 5)).alloc (.cells #[.int .i64 f, .int .i64 t, .slice (some ⟨w.heap.size, 0, none⟩) 1 1] 31)) := ((Below.refl _ _).alloc (Nat.le_refl _) _).alloc (by rw [alloc_size]; omega) _
  have r1 : ((w.alloc (.cells #[.int .u8 (x.toNat : Int)] 5)).alloc (.cells #[.int .i64 f, .int .i64 t, .slice (some ⟨w.heap.size, 0, none⟩) 1 1] 31)).rangeAt w.heap.size 0 [.int .u8 (x.toNat : Int)] := World.rangeAt_alloc (range_new w [.int .u8 (x.toNat : Int)] _) _
  have r2 : ((w.alloc (.cells #[.int .u8 (x.toNat : Int)] 5)).alloc (.cells #[.int .i64 f, .int .i64 t, .slice (some ⟨w.heap.size, 0, none⟩) 1 1] 31)).rangeAt (w.heap.size + 1) 0 [.int .i64 f, .int .i64 t, .slice (some ⟨w.heap.size, 0, none⟩) 1 1] := by
    have := range_new (w.alloc (.cells #[.int .u8 (x.toNat : Int)] 5)) [.int .i64 f, .int .i64 t, .slice (some ⟨w.heap.size, 0, none⟩) 1 1] 31
    rwa [alloc_size] at this
  have hsz : ((w.alloc (.cells #[.int .u8 (x.toNat : Int)] 5)).alloc (.cells #[.int .i64 f, .int .i64 t, .slice (some ⟨w.heap.size, 0, none⟩) 1 1] 31)).heap.size = w.heap.size + 2 := by rw [alloc_size, alloc_size]
  have hfoot : ∀ k, w.heap.size ≤ k → ¬ foot a v k := fun k hk hf => by
    rcases hf with rfl | hf
    · have := hN.lt; omega
    · have := (hN.row.lt _ hf).2; omega
  generalize ((w.alloc (.cells #[.int .u8 (x.toNat : Int)] 5)).alloc (.cells #[.int .i64 f, .int .i64 t, .slice (some ⟨w.heap.size, 0, none⟩) 1 1] 31)) = W at *
  refine (send_any B W a v vs ps (hN.grow hb) (by omega) hps (some ⟨w.heap.size + 1, 0, none⟩) 1 1 [⟨f, t, .slice (some ⟨w.heap.size, 0, none⟩) 1 1⟩] [⟨f, t, [x]⟩] (fun W' hk => ⟨?_, ?_⟩) rfl rfl (by omega)).mono ?_
  · exact reads_of_range (kept_range hk r2 (by omega) (hfoot _ (by omega))) rfl (by omega)
  · intro i u q h1 h2
    cases i with
    | zero =>
      simp at h1 h2
      subst h1 h2
      exact ⟨rfl, rfl, _, _, rfl, by simp, reads_of_range (kept_range hk r1 (by omega) (hfoot _ (by omega))) rfl (by omega)⟩
    | succ i => simp at h1
  · rintro e w' ⟨he, v', vs', h1, h2, h3⟩
    refine ⟨he, v', vs', h1, (Kept.of_below hb : Kept (foot a v) w W).trans h2 (fun _ _ h => h), fun g hg => ?_⟩
    rcases h3 g hg with h | h
    · exact .inl h
    · right; omega
end

set_option maxRecDepth 100000 in
theorem new_any (w : World) : Calls Try.prog 13 #[] w fun e w' => e = .returned (.pointer (some ⟨w.heap.size, 0, none⟩)) ∧ w' = w.alloc (.cells #[.slice none 0 0] 27) := by
  go_enter Try.func13, Try.ntmps13
  go_wp2
  go_ret
  exact ⟨rfl, rfl⟩

theorem range_newm (w : World) (cs : List Value) (e : TypeId) (m : Nat × Nat) : (w.alloc (.cells cs.toArray e m)).rangeAt w.heap.size 0 cs := fun j v hv => by
  rw [Nat.zero_add, cell_of_row (w.alloc (.cells cs.toArray e m)) w.heap.size j cs.toArray e m (heap_alloc_new w _)]; simpa using hv
/-- Two packets are sent to a new net. -/
theorem send_two (w W : World) (hW : W = ((((w.alloc (.cells #[.slice none 0 0] 27)).alloc (.cells #[.int .u8 97] 5 (1, 2))).alloc (.cells #[.int .u8 98] 5 (1, 2))).alloc (.cells #[.int .i64 1, .int .i64 2, .slice (some ⟨w.heap.size + 1, 0, none⟩) 1 1, .int .i64 2, .int .i64 1, .slice (some ⟨w.heap.size + 1 + 1, 0, none⟩) 1 1] 31))) :
    Calls Try.prog 9 #[.pointer (some ⟨w.heap.size, 0, none⟩), .slice (some ⟨w.heap.size + 1 + 1 + 1, 0, none⟩) 2 2] W fun e w' =>
      e = .returned (.int .i64 2) ∧ ∃ v' vs', NetAt w.heap.size w' w.heap.size v' vs' [⟨1, 2, [97]⟩, ⟨2, 1, [98]⟩] ∧ Below w.heap.size w w' := by
  have hb : Below w.heap.size w W := by subst hW; exact ((((Below.refl _ _).alloc (Nat.le_refl _) _).alloc (by rw [alloc_size]; omega) _).alloc (by rw [alloc_size, alloc_size]; omega) _).alloc (by rw [alloc_size, alloc_size, alloc_size]; omega) _
  have hn : NetAt w.heap.size W w.heap.size (.slice none 0 0) [] [] := by
    subst hW
    exact (net_new w).grow (by rw [alloc_size]; exact (((Below.refl _ _).alloc (by rw [alloc_size]; omega) _).alloc (by rw [alloc_size, alloc_size]; omega) _).alloc (by rw [alloc_size, alloc_size, alloc_size]; omega) _)
  have r1 : W.rangeAt (w.heap.size + 1) 0 [.int .u8 97] := by
    subst hW
    have := range_newm (w.alloc (.cells #[.slice none 0 0] 27)) [.int .u8 97] 5 (1, 2)
    rw [alloc_size] at this
    exact World.rangeAt_alloc (World.rangeAt_alloc this _) _
  have r2 : W.rangeAt (w.heap.size + 2) 0 [.int .u8 98] := by
    subst hW
    have := range_newm ((w.alloc (.cells #[.slice none 0 0] 27)).alloc (.cells #[.int .u8 97] 5 (1, 2))) [.int .u8 98] 5 (1, 2)
    rw [alloc_size, alloc_size] at this
    exact World.rangeAt_alloc this _
  have r3 : W.rangeAt (w.heap.size + 3) 0 [.int .i64 1, .int .i64 2, .slice (some ⟨w.heap.size + 1, 0, none⟩) 1 1, .int .i64 2, .int .i64 1, .slice (some ⟨w.heap.size + 1 + 1, 0, none⟩) 1 1] := by
    subst hW
    have := range_new (((w.alloc (.cells #[.slice none 0 0] 27)).alloc (.cells #[.int .u8 97] 5 (1, 2))).alloc (.cells #[.int .u8 98] 5 (1, 2))) [.int .i64 1, .int .i64 2, .slice (some ⟨w.heap.size + 1, 0, none⟩) 1 1, .int .i64 2, .int .i64 1, .slice (some ⟨w.heap.size + 1 + 1, 0, none⟩) 1 1] 31
    rw [alloc_size, alloc_size, alloc_size] at this
    exact this
  have hsz : W.heap.size = w.heap.size + 4 := by subst hW; rw [alloc_size, alloc_size, alloc_size, alloc_size]
  have hfoot : ∀ k, w.heap.size < k → ¬ foot w.heap.size (.slice none 0 0) k := fun k hk hf => by
    rcases hf with rfl | hf
    · omega
    · cases hf
  refine (send_any w.heap.size W w.heap.size (.slice none 0 0) [] [] hn (by omega) (by simp) (some ⟨w.heap.size + 1 + 1 + 1, 0, none⟩) 2 2 [⟨1, 2, .slice (some ⟨w.heap.size + 1, 0, none⟩) 1 1⟩, ⟨2, 1, .slice (some ⟨w.heap.size + 1 + 1, 0, none⟩) 1 1⟩] [⟨1, 2, [97]⟩, ⟨2, 1, [98]⟩] (fun W' hk => ⟨?_, ?_⟩) rfl rfl (by omega)).mono ?_
  · exact reads_of_range (kept_range hk r3 (by omega) (hfoot _ (by omega))) rfl (by omega)
  · intro i u q h1 h2
    rcases i with _ | _ | i
    · simp at h1 h2
      subst h1 h2
      exact ⟨rfl, rfl, _, _, rfl, by simp, reads_of_range (kept_range hk r1 (by omega) (hfoot _ (by omega))) rfl (by omega)⟩
    · simp at h1 h2
      subst h1 h2
      exact ⟨rfl, rfl, _, _, rfl, by simp, reads_of_range (kept_range hk r2 (by omega) (hfoot _ (by omega))) rfl (by omega)⟩
    · simp at h1
  · rintro e w' ⟨he, v', vs', h1, h2, h3⟩
    exact ⟨he, v', vs', h1, hb.trans (h2.below (by omega) (fun k hf => Or.elim hf (fun e => by rw [e]; exact Nat.le_refl _) (fun e => by cases e)))⟩

def RetDel1 (B : Nat) (w : World) (a : Nat) (v : Value) (f t : Int) (x : UInt8) (ps : List Pk) (e : Ending) (w' : World) : Prop :=
  ∃ A c, e = .returned (.tuple #[.agg #[.int .i64 f, .int .i64 t, .slice A 1 c], .bool true]) ∧ w'.ownsRow w.heap.size 5 1 (.slice A 1 c) 1 (bc [x]) ∧ c ≤ maxLen ∧ NetNow B w a v ps w'
theorem deliver_one (B : Nat) (w : World) (a : Nat) (v : Value) (vs : List PkV) (ps : List Pk) (hN : NetAt B w a v vs ps) (hps : ps.length ≤ 200) (hB : B ≤ w.heap.size) (k : Nat) (z f t : Int) (x : UInt8) (hz : z = (k : Int)) (hk : ps[k]? = some ⟨f, t, [x]⟩) :
    Calls Try.prog 11 #[.pointer (some ⟨a, 0, none⟩), .int .i64 z] w (RetDel1 B w a v f t x (ps.eraseIdx k)) := by
  subst hz
  refine (deliver_some B w a v vs ps hN hps hB k ⟨f, t, [x]⟩ hk (by simp)).mono ?_
  rintro e w' ⟨A, c, h1, h2, h3, h4, h5⟩
  exact ⟨A, c, h1, h2, h4, h5⟩
theorem netnow_below {B : Nat} {w w' : World} {a : Nat} {v : Value} {ps : List Pk} (h : NetNow B w a v ps w') (ha : B ≤ a) (hv : ∀ g, v.ownBlock = some g → B ≤ g) (hB : B ≤ w.heap.size) : Below B w w' := by
  obtain ⟨v', vs', _, h2, _⟩ := h
  exact h2.below hB (fun k hf => Or.elim hf (fun e => by omega) (fun e => hv k e))

set_option maxRecDepth 100000 in
set_option maxHeartbeats 4000000 in
theorem awake_any (w : World) : Calls Try.prog 8 #[] w (RetTrue w) := by
  have kc := fun (w : World) (C : Array Value) (n c : Nat) => Lib.run_convert_bytes_const (P := Try.prog) w 29 5 C n c Try.underlying29 Try.underlying5
  have k1 := kc (w.alloc (.cells #[.slice none 0 0] 27)) #[.int .u8 97] 1 1
  have k2 := kc ((w.alloc (.cells #[.slice none 0 0] 27)).alloc (.cells #[.int .u8 97] 5 (1, 2))) #[.int .u8 98] 1 1
  rw [alloc_size] at k1 k2
  rw [alloc_size] at k2
  clear kc
  go_enter Try.func8, Try.ntmps8
  go_upto_region 4 with (first
    | (refine wpList_unguard rfl ?_)
    | (go_at_call 13; refine (new_any _).mono ?_; rintro e w1 ⟨rfl, rfl⟩)
    | (go_at_call 9; refine (send_two w _ rfl).mono ?_; rintro e w2 ⟨rfl, v2, vs2, hn2, hb2⟩; have HN2 := Lib.hid hn2; have HB2 := Lib.hid hb2; clear hn2 hb2))
  have HL2 : Hid (w.heap.size ≤ w2.heap.size) := Lib.hid HB2.out.size
  have HD1 := Lib.hid (deliver_one w.heap.size w2 w.heap.size v2 vs2 _ HN2.out (by simp) HL2.out 1 1 2 1 98 rfl rfl)
  go_upto_region 5 with (go_at_call 11; ((with_reducible refine HD1.out.mono ?_); rintro e w3 ⟨A3, c3, rfl, ho3, hm3, hn3⟩; have HO3 := Lib.hid ho3; have HN3 := Lib.hid hn3; clear ho3 hn3))
  obtain ⟨v3, vs3, hn3, hk3, hg3⟩ := HN3.out
  have HB3 : Hid (Below w.heap.size w2 w3) := Lib.hid (netnow_below HN3.out (Nat.le_refl _) (fun g hg => (HN2.out.row.lt g hg).1) HL2.out)
  have hsz3 : w2.heap.size ≤ w3.heap.size := hk3.size
  have HW4 : Hid (NetAt w.heap.size (w3.alloc (.cells #[.int .i64 2, .int .i64 1, .slice A3 1 c3] 31)) w.heap.size v3 vs3 [⟨1, 2, [97]⟩] ∧ (w3.alloc (.cells #[.int .i64 2, .int .i64 1, .slice A3 1 c3] 31)).rangeAt w3.heap.size 0 [.int .i64 2, .int .i64 1, .slice A3 1 c3] ∧ w3.heap.size + 1 = (w3.alloc (.cells #[.int .i64 2, .int .i64 1, .slice A3 1 c3] 31)).heap.size ∧ (w3.alloc (.cells #[.int .i64 2, .int .i64 1, .slice A3 1 c3] 31)).ownsRow w2.heap.size 5 1 (.slice A3 1 c3) 1 (bc [98]) ∧ Below w.heap.size w2 (w3.alloc (.cells #[.int .i64 2, .int .i64 1, .slice A3 1 c3] 31))) :=
    Lib.hid ⟨hn3.grow ((Below.refl _ _).alloc (Nat.le_refl _) _), range_new w3 [.int .i64 2, .int .i64 1, .slice A3 1 c3] _, by rw [alloc_size], HO3.out.kept (World.grownBy_alloc w3 _ none) (by cases (Value.slice A3 1 c3).ownBlock <;> simp), HB3.out.alloc (by have := HL2.out; omega) _⟩
  have HV3 : Hid (∀ g, v3.ownBlock = some g → w.heap.size ≤ g ∧ g < w3.heap.size) := Lib.hid fun g hg => hn3.row.lt g hg
  have HLT3 : Hid (∀ q, (Value.slice A3 1 c3).ownBlock = some q → w2.heap.size ≤ q ∧ q < w3.heap.size) := Lib.hid (HO3.out.lt)
  have HA : Hid (w.heap.size < w2.heap.size) := Lib.hid HN2.out.lt
  clear hn3 hk3 hg3 HN3
  generalize (w3.alloc (.cells #[.int .i64 2, .int .i64 1, .slice A3 1 c3] 31)) = W4 at *
  generalize w3.heap.size = b2 at *
  have HD0 := Lib.hid (deliver_one w.heap.size W4 w.heap.size v3 vs3 _ HW4.out.1 (by simp) (by have := HW4.out.2.2.1; have := HL2.out; omega) 0 0 1 2 97 rfl rfl)
  go_upto_region 6 with (go_at_call 11; ((with_reducible refine HD0.out.mono ?_); rintro e w5 ⟨A5, c5, rfl, ho5, hm5, hn5⟩; have HO5 := Lib.hid ho5; have HN5 := Lib.hid hn5; clear ho5 hn5))
  obtain ⟨v5, vs5, hn5, hk5, hg5⟩ := HN5.out
  have HK5 := Lib.hid hk5
  have hsz5 : W4.heap.size ≤ w5.heap.size := hk5.size
  have hf3 : ∀ q, W4.heap.size - 1 ≤ q → ¬ foot w.heap.size v3 q := fun q hq hf => by
    have h1 := HW4.out.2.2.1
    have h2 := HA.out
    rcases hf with rfl | hf
    · omega
    · have := (HV3.out q hf).2; omega
  have HB6 : Hid (Below w.heap.size W4 (w5.alloc (.cells #[.int .i64 1, .int .i64 2, .slice A5 1 c5] 31))) := Lib.hid ((netnow_below HN5.out (Nat.le_refl _) (fun g hg => (HV3.out g hg).1) (by have := HW4.out.2.2.1; have := HL2.out; omega)).alloc (by have := HW4.out.2.2.1; have := HL2.out; omega) _)
  have HR2 : Hid ((w5.alloc (.cells #[.int .i64 1, .int .i64 2, .slice A5 1 c5] 31)).rangeAt b2 0 [.int .i64 2, .int .i64 1, .slice A3 1 c3] ∧ (w5.alloc (.cells #[.int .i64 1, .int .i64 2, .slice A5 1 c5] 31)).rangeAt w5.heap.size 0 [.int .i64 1, .int .i64 2, .slice A5 1 c5]) := Lib.hid
    ⟨World.rangeAt_alloc (kept_range HK5.out HW4.out.2.1 (by have := HW4.out.2.2.1; omega) (hf3 _ (by have := HW4.out.2.2.1; omega))) _, range_new w5 [.int .i64 1, .int .i64 2, .slice A5 1 c5] _⟩
  have HO6 : Hid ((w5.alloc (.cells #[.int .i64 1, .int .i64 2, .slice A5 1 c5] 31)).ownsRow 0 5 1 (.slice A3 1 c3) 1 (bc [98]) ∧ (w5.alloc (.cells #[.int .i64 1, .int .i64 2, .slice A5 1 c5] 31)).ownsRow 0 5 1 (.slice A5 1 c5) 1 (bc [97])) := Lib.hid
    ⟨own_moreN ((HK5.out.own HW4.out.2.2.2.1 (fun q hq hf => Or.elim hf (fun e => by have := (HLT3.out q hq).1; have := HA.out; omega) (fun e => own_apart HW4.out.2.2.2.1 HW4.out.1.row (by decide) hq e))).kept (World.grownBy_alloc w5 _ none) (by cases (Value.slice A3 1 c3).ownBlock <;> simp)) (Nat.zero_le _),
     own_moreN (HO5.out.kept (World.grownBy_alloc w5 _ none) (by cases (Value.slice A5 1 c5).ownBlock <;> simp)) (Nat.zero_le _)⟩
  have HL6 : Hid ((w5.alloc (.cells #[.int .i64 1, .int .i64 2, .slice A5 1 c5] 31)).heap[w.heap.size]? = some (.cells #[v5] 27 (0, 0)) ∧ ∃ A c, v5 = .slice A 0 c) := Lib.hid ⟨(Below.heap_alloc w5 _ _ hn5.lt).trans hn5.cell, by
    obtain ⟨A, c, h, _⟩ := Owns.form (Or.inl hn5.row); exact ⟨A, c, h⟩⟩
  clear hn5 hk5 hg5 hf3
  generalize (w5.alloc (.cells #[.int .i64 1, .int .i64 2, .slice A5 1 c5] 31)) = W6 at *
  generalize w5.heap.size = b4 at *
  obtain ⟨hc6, A6, c6, rfl⟩ := HL6.out
  have HLEN : Hid (Calls Try.prog 12 #[.pointer (some ⟨w.heap.size, 0, none⟩)] W6 fun e w' => e = .returned (.int .i64 0) ∧ W6 = w') := Lib.hid (len_any W6 w.heap.size A6 0 c6 (Nat.zero_le _) (cell_of_one hc6))
  have x1 : W6.cell? ⟨b2, 2, none⟩ = some (.slice A3 1 c3) := HR2.out.1 2 _ rfl
  have x2 : W6.cell? ⟨b4, 2, none⟩ = some (.slice A5 1 c5) := HR2.out.2 2 _ rfl
  clear hc6
  go_wp2_with (first
    | (refine wpList_unguard rfl ?_)
    | (refine str_bytes W6 rfl _ rfl rfl (Reads.of_own HO6.out.1) ?_)
    | (refine str_bytes W6 rfl _ rfl rfl (Reads.of_own HO6.out.2) ?_)
    | (go_at_call 12; ((with_reducible refine HLEN.out.mono ?_); rintro e w' ⟨rfl, rfl⟩)))
  go_ret
  exact ⟨rfl, HB2.out.trans (HW4.out.2.2.2.2.trans HB6.out)⟩
end Go.Proofs.Ytlgkgmnnmlhaeaa
