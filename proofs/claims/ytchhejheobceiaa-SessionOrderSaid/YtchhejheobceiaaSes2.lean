/- A session's packet. No condition. -/
import Derived.Test.YtchhejheobceiaaSes
namespace Go.Proofs.Ytchhejheobceiaa
open Go.RowKit
set_option linter.unusedVariables false

def bodyL (life peer num took : Nat) (has : Bool) (m : List UInt8) : List UInt8 := (((Lib.uvarint life ++ Lib.uvarint peer) ++ Lib.uvarint num) ++ Lib.uvarint took) ++ [if has then 1 else 0] ++ m
def pktL (s : Se) (num : Nat) (has : Bool) (m : List UInt8) : List UInt8 := putL (bodyL s.life s.peer num s.took has m)
def nthL (l : List Nat) (k : Nat) : List UInt8 := (l.take k).flatMap Lib.uvarint

theorem varint_num (x : Nat) (z : Int) (w : World) (hz : z = (x : Int)) (hx : x < 18446744073709551616) : Calls Try.prog 30 #[.int .u64 z] w (RetBytes w.heap.size w (Lib.uvarint x)) := by
  subst hz
  exact varint_any x w hx
theorem nthL_len (l : List Nat) (hl : ∀ x ∈ l, x < 18446744073709551616) (k : Nat) (hk : k ≤ 4) : (nthL l k).length ≤ 40 := by
  have h : ∀ (l : List Nat), (∀ x ∈ l, x < 18446744073709551616) → (l.flatMap Lib.uvarint).length ≤ 10 * l.length := by
    intro l
    induction l with
    | nil => intro _; simp
    | cons x l ih =>
      intro hl
      have h1 := Lib.uvarint_length64 (hl x List.mem_cons_self)
      have h2 := ih (fun y hy => hl y (List.mem_cons_of_mem _ hy))
      rw [List.flatMap_cons, List.length_append, List.length_cons]
      omega
  have := h (l.take k) (fun x hx => hl x (List.mem_of_mem_take hx))
  rw [List.length_take] at this
  unfold nthL
  omega
set_option maxRecDepth 100000 in
set_option maxHeartbeats 4000000 in
theorem packet_any (w : World) (a : Nat) (l p t num : Nat) (has : Bool) (A : Option Addr) (n c : Nat) (m : List UInt8) (hlt : a < w.heap.size) (c0 : w.cell? ⟨a, 0, none⟩ = some (.int .i64 l)) (c1 : w.cell? ⟨a, 1, none⟩ = some (.int .i64 p)) (c2 : w.cell? ⟨a, 2, none⟩ = some (.int .i64 t))
    (hl : l ≤ 2000000000000) (hp : p ≤ 2000000000000) (ht : t ≤ 2000000000000) (hnum : num ≤ 4000000000000) (hr : Reads w w.heap.size 1 A n (bc m)) (hn : n ≤ 65536) :
    Calls Try.prog 20 #[.pointer (some ⟨a, 0, none⟩), .int .i64 num, .slice A n c, .bool has] w fun e w' =>
      ∃ B c', e = .returned (.slice B (putL (bodyL l p num t has m)).length c') ∧ w'.ownsRow w.heap.size 5 1 (.slice B (putL (bodyL l p num t has m)).length c') (putL (bodyL l p num t has m)).length (bc (putL (bodyL l p num t has m))) ∧ Below w.heap.size w w' := by
  have HR := Lib.hid hr
  clear hr
  have i0 : ∀ w : World, (Instr.index 65 (.agg #[.int .i64 (l : Int), .int .i64 (p : Int), .int .i64 (num : Int), .int .i64 (t : Int)]) (.int .i64 0)).run Try.prog w = .ok (.int .i64 (l : Int)) w := fun _ => by kernel_rfl
  have i1 : ∀ w : World, (Instr.index 65 (.agg #[.int .i64 (l : Int), .int .i64 (p : Int), .int .i64 (num : Int), .int .i64 (t : Int)]) (.int .i64 1)).run Try.prog w = .ok (.int .i64 (p : Int)) w := fun _ => by kernel_rfl
  have i2 : ∀ w : World, (Instr.index 65 (.agg #[.int .i64 (l : Int), .int .i64 (p : Int), .int .i64 (num : Int), .int .i64 (t : Int)]) (.int .i64 2)).run Try.prog w = .ok (.int .i64 (num : Int)) w := fun _ => by kernel_rfl
  have i3 : ∀ w : World, (Instr.index 65 (.agg #[.int .i64 (l : Int), .int .i64 (p : Int), .int .i64 (num : Int), .int .i64 (t : Int)]) (.int .i64 3)).run Try.prog w = .ok (.int .i64 (t : Int)) w := fun _ => by kernel_rfl
  go_enter Try.func20, Try.ntmps20
  go_upto_region 2 with fail
  go_quiet (fail)
  go_wp2
  go_loopw [9, 29] (fun b k wr => ∃ (j : Nat), j ≤ 4 ∧ k = .int .i64 j ∧ Hid (wr.ownsRow w.heap.size 5 1 b (nthL [l, p, num, t] j).length (bc (nthL [l, p, num, t] j))) ∧ Hid (Below w.heap.size w wr)) (fun _ k _ => 4 - (intOf k).toNat)
  case atStart => exact ⟨0, Nat.zero_le _, rfl, Lib.hid (World.ownsRow_nil _ _ _ _), Lib.hid (below_drewN (Below.refl _ _) _)⟩
  case round =>
    obtain ⟨j, hj, rfl, HO, HB⟩ := hrel
    have hbs := HB.out.size
    have HNL := Lib.hid (nthL_len [l, p, num, t] (by intro x hx; simp at hx; omega) j hj)
    by_cases hlt4 : j < 4
    · obtain ⟨x, hx, HX⟩ : ∃ x, x < 18446744073709551616 ∧ Hid ([l, p, num, t][j]? = some x) := by
        rcases j with _ | _ | _ | _ | j
        · exact ⟨l, by omega, Lib.hid rfl⟩
        · exact ⟨p, by omega, Lib.hid rfl⟩
        · exact ⟨num, by omega, Lib.hid rfl⟩
        · exact ⟨t, by omega, Lib.hid rfl⟩
        · omega
      have HS : Hid (nthL [l, p, num, t] (j + 1) = nthL [l, p, num, t] j ++ Lib.uvarint x) := Lib.hid (by
        unfold nthL
        rw [List.take_add_one, HX.out, Option.toList, List.flatMap_append]; simp)
      have HXJ : Hid ((j = 0 ∧ x = l) ∨ (j = 1 ∧ x = p) ∨ (j = 2 ∧ x = num) ∨ (j = 3 ∧ x = t)) := Lib.hid (by
        have := HX.out
        rcases j with _ | _ | _ | _ | j
        · left; simp at this; exact ⟨rfl, this.symm⟩
        · right; left; simp at this; exact ⟨rfl, this.symm⟩
        · right; right; left; simp at this; exact ⟨rfl, this.symm⟩
        · right; right; right; simp at this; exact ⟨rfl, this.symm⟩
        · omega)
      have HLX := Lib.hid (Lib.uvarint_length64 hx)
      rcases HXJ.out with ⟨rfl, rfl⟩ | ⟨rfl, rfl⟩ | ⟨rfl, rfl⟩ | ⟨rfl, rfl⟩
      all_goals
        go_wp2_with (first
          | (go_at_call 30; refine (varint_num x _ _ (by omega) hx).mono ?_; rintro e w2 h2; obtain ⟨A2, c2, rfl, ho2, hb2, hc2, hm2, hr2⟩ := h2.open_; have HR2 := Lib.hid hr2; have HB2 := Lib.hid hb2; have hbs2 := hb2.size; have HO2 := Lib.hid (own_below HO.out hb2 (Nat.le_refl _)); clear h2 ho2 hb2 hr2 hc2)
          | (at_builtin; refine app_bytes _ rfl (.tmp 32) (.tmp 35) rfl w.heap.size _ _ _ rfl (.inl HO2.out) w2.heap.size _ (Lib.uvarint x).length _ _ rfl HR2.out (bc_one _) (by have := HNL.out; have := HLX.out; omega) (by omega) ?_; intro v3 w3 ho3 hb3 hr3; have HO3 := Lib.hid (hr3 (.inl HO2.out)); have HB3 := Lib.hid hb3; clear ho3 hb3 hr3))
        go_roundw
        case rel =>
          have hf := HO3.out
          rw [← List.length_append, show bc _ ++ bc _ = bc (_ ++ _) from (Lib.byteCells_append _ _).symm, ← HS.out] at hf
          have hb := (HB.out.trans (HB2.out.mono HB.out.size)).trans HB3.out
          first
            | exact ⟨0 + 1, by omega, by go_num, Lib.hid hf, Lib.hid hb⟩
            | exact ⟨1 + 1, by omega, by go_num, Lib.hid hf, Lib.hid hb⟩
            | exact ⟨2 + 1, by omega, by go_num, Lib.hid hf, Lib.hid hb⟩
            | exact ⟨3 + 1, by omega, by go_num, Lib.hid hf, Lib.hid hb⟩
        case measure => simp [intOf]
    · obtain rfl : j = 4 := by omega
      have HN4 : Hid (nthL [l, p, num, t] 4 = ((Lib.uvarint l ++ Lib.uvarint p) ++ Lib.uvarint num) ++ Lib.uvarint t) := Lib.hid (by simp [nthL])
      obtain ⟨Ab, cb, rfl, _⟩ := Owns.form (Or.inl HO.out)
      have HML : Hid (m.length = n) := Lib.hid (by have := HR.out.1; rw [bc_length] at this; omega)
      have HBD : Hid (bodyL l p num t has m = nthL [l, p, num, t] 4 ++ [if has then 1 else 0] ++ m) := Lib.hid (by rw [HN4.out]; rfl)
      clear HN4
      obtain ⟨D, HD⟩ : ∃ D, Hid (bodyL l p num t has m = D) := ⟨_, Lib.hid rfl⟩
      rw [HD.out] at HBD
      generalize nthL [l, p, num, t] 4 = L at *
      obtain ⟨K, HK⟩ : ∃ K, Hid (L.length = K) := ⟨_, Lib.hid rfl⟩
      have hK : K ≤ 40 := by rw [← HK.out]; exact HNL.out
      rw [HK.out] at HO
      simp only [HK.out]
      clear i0 i1 i2 i3 HNL
      have HRW : Hid (Reads wr w.heap.size 1 A n (bc m)) := Lib.hid (HR.out.below HB.out)
      have HBC : Hid (bc D = (bc L ++ [.int .u8 (if has then 1 else 0)]) ++ bc m) := Lib.hid (by rw [HBD.out]; cases has <;> simp [bc, Lib.byteCells])
      cases has
      all_goals
        simp only [if_true, Bool.false_eq_true, if_false] at HBC
        go_wp2_with (first
          | (at_builtin; refine app_bytes _ rfl (.tmp 40) (.tmp 42) rfl w.heap.size _ K _ rfl (Owns.alloc (.inl HO.out) _) (wr.heap.size + 1) _ 1 1 [_] rfl (reads_new1 _ _ _) one1 (by omega) (le_alloc hbs) ?_; intro v1 w1 ho1 hb1 hr1; have HO1 := Lib.hid (hr1 (.inr (by omega))); have HB1 := Lib.hid hb1; have hs1 := hb1.size; obtain ⟨A1, c1', rfl, _⟩ := ho1.form; clear ho1 hb1 hr1)
          | (at_builtin; refine app_bytes _ rfl (.tmp 43) (.tmp 44) rfl w.heap.size _ (K + 1) _ rfl (.inl HO1.out) w.heap.size _ n _ _ rfl ((HRW.out.alloc hbs _).below HB1.out) (bc_one _) (by omega) (by rw [alloc_size] at hs1; omega) ?_; intro v2 w2 ho2 hb2 hr2; have HO2 := Lib.hid (hr2 (.inl HO1.out)); have HB2 := Lib.hid hb2; have hs2 := hb2.size; obtain ⟨A2, c2', rfl, _⟩ := ho2.form; clear ho2 hb2 hr2)
          | (go_at_call 31; refine (fput_yes _ _ _ D _ (by rw [HBC.out]; exact Reads.of_own HO2.out) (by omega)).mono ?_; rintro e w3 ⟨A3, c3, rfl, ho3, hb3⟩))
        go_ret
        have hsz : w.heap.size ≤ w2.heap.size := by rw [alloc_size] at hs1; omega
        simp only [HD.out]
        exact ⟨A3, c3, rfl, own_moreN ho3 hsz, (((HB.out.alloc HB.out.size _).trans HB1.out).trans HB2.out).trans (hb3.mono hsz)⟩
end Go.Proofs.Ytchhejheobceiaa
