/- The small functions of SessionOrder: Rows and prefix at rows that say the same, Sum, small, the reference's New, begin; a slice of steps. No condition. -/
import Derived.Test.YtchhejheobceiaaSesV
namespace Go.Proofs.Ytchhejheobceiaa
open Go.RowKit
set_option linter.unusedVariables false

theorem reads_at' {w : World} {B n k : Nat} {A : Option Addr} {xs : List Value} (h : Reads w B 1 A n xs) (hk : k < n) : ∃ ad u, A = some ad ∧ xs[k]? = some u ∧ w.cell? (ad.add k) = some u := by
  obtain ⟨ad, u, e, _, h1, h2⟩ := h.at_ hk
  exact ⟨ad, u, e, h1, h2⟩
theorem Texts.drewN {w : World} {us : List Value} {ls : List (List UInt8)} (h : Texts w us ls) (k : Nat) : Texts (w.drewN k) us ls := h
set_option maxRecDepth 100000 in
set_option maxHeartbeats 400000 in
theorem rows_eq (A B : Option Addr) (n ca cb : Nat) (vs us : List Value) (ls : List (List UInt8)) (w : World) {B1 B2 : Nat} (ha : Reads w B1 1 A n vs) (hb : Reads w B2 1 B n us)
    (hv : Texts w vs ls) (hu : Texts w us ls) (hn : n ≤ maxLen) :
    Calls Try.prog 16 #[.slice A n ca, .slice B n cb] w (YesDrew w) := by
  unfold maxLen at hn
  have HL : Hid (ls.length = n) := by have := ha.1; have := hv.1; unfold Hid; omega
  go_enter Try.func16, Try.ntmps16
  go_wp2
  go_loopw [5] (fun i wr => ∃ k m : Nat, k ≤ n ∧ i = .int .i64 k ∧ wr = w.drewN m) (fun i _ => n - (intOf i).toNat)
  case atStart => exact ⟨0, 0, Nat.zero_le _, rfl, rfl⟩
  case round =>
    obtain ⟨k, m, hk, rfl, rfl⟩ := hrel
    by_cases hlt : k < n
    · obtain ⟨ad, u, rfl, hx, hca⟩ := reads_at' ha hlt
      obtain ⟨ad', u', rfl, hx', hcb⟩ := reads_at' hb hlt
      obtain ⟨l, hl⟩ : ∃ l, ls[k]? = some l := ⟨_, List.getElem?_eq_getElem (by have := HL.out; omega)⟩
      obtain ⟨A1, c1, rfl, hc1, hm1, hr1⟩ := hv.2 k u l hx hl
      obtain ⟨A2, c2, rfl, hc2, hm2, hr2⟩ := hu.2 k u' l hx' hl
      have HC := Lib.hid (fun j => bytes_same A1 A2 l.length c1 c2 l (w.drewN j) (hr1.drewN j) (hr2.drewN j) (by omega))
      clear hx hx' hl
      go_wp2
      go_quiet ((go_at_call 29; exact quiet_add (HC.out _)))
      go_wp2
      go_roundw
      case rel => exact ⟨k + 1, _, by omega, by go_num, rfl⟩
      case measure => simp [intOf]; omega
    · go_wp2
      go_ret
      exact ⟨rfl, m, rfl⟩
/-- Rows at two rows that say the same. -/
theorem rows_lines {w : World} {b1 b2 : Nat} {v1 v2 : Value} {us1 us2 : List Value} {ls : List (List UInt8)} (h1 : Row w b1 30 v1 ls.length us1) (h2 : Row w b2 30 v2 ls.length us2) (t1 : Texts w us1 ls) (t2 : Texts w us2 ls) (hn : ls.length ≤ 1000000) :
    Calls Try.prog 16 #[v1, v2] w (YesDrew w) := by
  obtain ⟨A1, c1, rfl, _, _, r1⟩ := h1.form
  obtain ⟨A2, c2, rfl, _, _, r2⟩ := h2.form
  exact rows_eq A1 A2 ls.length c1 c2 us1 us2 ls w r1 r2 t1 t2 (by unfold maxLen; omega)
theorem Texts.of_rows {w : World} {b : Nat} {us : List Value} {ls : List (List UInt8)} (h : OwnBs w b us ls) : Texts w us ls := ⟨h.len, fun i u m h1 h2 => (h.at_ i u m h1 h2).value⟩
set_option maxRecDepth 100000 in
theorem prefix_yes {base : Nat} {w : World} {v1 v2 : Value} {ls ls2 : List (List UInt8)} (h1 : Lines base w v1 ls) (h2 : Lines base w v2 ls2) (hb : base ≤ w.heap.size) (hl : ls.length ≤ ls2.length) (hp : ls2.take ls.length = ls) (hn : ls2.length ≤ 1000000) :
    Calls Try.prog 15 #[v1, v2] w (YesDrew w) := by
  obtain ⟨us1, r1, t1⟩ := h1
  obtain ⟨us2, r2, t2⟩ := h2
  obtain ⟨A1, c1, rfl, g1, g1', _, _⟩ := r1.form
  obtain ⟨A2, c2, rfl, g2, g2', _, _⟩ := r2.form
  have HR : Hid (∀ A c, (A = A2 ∨ ls.length = 0) → Calls Try.prog 16 #[.slice A1 ls.length c1, .slice A ls.length c] w (YesDrew w)) := Lib.hid (by
    intro A c hA
    obtain ⟨_, _, e1, _, _, q1⟩ := r1.form
    injection e1 with e1 _ e1'
    subst e1 e1'
    obtain ⟨_, _, e2, _, _, q2⟩ := r2.form
    injection e2 with e2 _ e2'
    subst e2 e2'
    have tt := (t2.take_ ls.length).bytes hb
    rw [hp] at tt
    have qq := q2.take_ hl
    rw [Nat.mul_one] at qq
    rcases hA with rfl | hA
    · exact rows_eq A1 A ls.length c1 c us1 (us2.take ls.length) ls w q1 qq (t1.bytes hb) tt (by unfold maxLen; omega)
    · have hl0 : ls = [] := List.eq_nil_of_length_eq_zero hA
      subst hl0
      exact rows_eq A1 A 0 c1 c [] [] [] w (B2 := 0) (by have := t1.1; have e : us1 = [] := List.eq_nil_of_length_eq_zero this; rw [e] at q1; exact q1) Reads.none_ ⟨rfl, fun i u m h => by simp at h⟩ ⟨rfl, fun i u m h => by simp at h⟩ (Nat.zero_le _))
  obtain ⟨n1, HN1⟩ : ∃ n, Hid (ls.length = n) := ⟨_, Lib.hid rfl⟩
  obtain ⟨n2, HN2⟩ : ∃ n, Hid (ls2.length = n) := ⟨_, Lib.hid rfl⟩
  simp only [HN1.out, HN2.out] at *
  have hc2 : c2 ≤ 9223372036854775807 := by unfold maxLen at g2'; exact g2'
  have hn12 : n1 ≤ c2 := by omega
  clear r1 r2 t1 t2 hp HN1 HN2 g1 g1' g2'
  go_enter Try.func15, Try.ntmps15
  go_wp2_with (first
    | (refine wpList_unguard rfl ?_)
    | (go_at_call 16; ((with_reducible refine (HR.out _ _ (.inl rfl)).mono ?_); rintro e w2 ⟨rfl, nq, rfl⟩)))
  go_ret
  exact ⟨rfl, nq, rfl⟩
/-! ### Sum -/
def sumMost : Nat := 1099511627776
def sumTo (n : Nat) : List Nat → Nat
  | [] => n
  | x :: r => if sumMost < n + x then sumMost else sumTo (n + x) r
def nums (xs : List Nat) : List Value := xs.map fun (x : Nat) => Value.int .i64 (x : Int)
theorem nums_get {xs : List Nat} {k : Nat} {u : Value} (h : (nums xs)[k]? = some u) : ∃ x, xs[k]? = some x ∧ u = .int .i64 (x : Int) := by
  simp only [nums, List.getElem?_map, Option.map_eq_some_iff] at h
  obtain ⟨b, h1, h2⟩ := h
  exact ⟨b, h1, h2.symm⟩
set_option maxRecDepth 100000 in
set_option maxHeartbeats 400000 in
theorem asum_any (n : Nat) (A : Option Addr) (m c : Nat) (xs : List Nat) (w : World) {B : Nat} (ha : Reads w B 1 A m (nums xs)) (hn : n ≤ sumMost) (hm : m ≤ 1000000) (hx : ∀ x ∈ xs, x ≤ maxLen) :
    Calls Try.prog 23 #[.int .i64 n, .slice A m c] w fun e w' => e = .returned (.int .i64 (sumTo n xs)) ∧ w = w' := by
  have HL : Hid (xs.length = m) := by have := ha.1; simp [nums] at this; unfold Hid; omega
  unfold sumMost at hn
  go_enter Try.func23, Try.ntmps23
  go_wp2
  go_loop [0, 5] (fun a i => ∃ k n' : Nat, k ≤ m ∧ n' ≤ 1099511627776 ∧ i = .int .i64 k ∧ a = .int .i64 n' ∧ Hid (sumTo n xs = sumTo n' (xs.drop k))) (fun _ i => m - (intOf i).toNat)
  case atStart => exact ⟨0, n, Nat.zero_le _, hn, rfl, rfl, by rw [List.drop_zero]; rfl⟩
  case round =>
    obtain ⟨k, n', hk, hn', rfl, rfl, hs⟩ := hrel
    by_cases hlt : k < m
    · obtain ⟨ad, u, rfl, hu, hca⟩ := reads_at' ha hlt
      obtain ⟨x, hxk, rfl⟩ := nums_get hu
      have hxm := hx x (List.mem_of_getElem? hxk)
      unfold maxLen at hxm
      have hd : xs.drop k = x :: xs.drop (k + 1) := by
        obtain ⟨hl, rfl⟩ := List.getElem?_eq_some_iff.1 hxk
        exact List.drop_eq_getElem_cons hl
      have hs2 := hs.out
      rw [hd, sumTo] at hs2
      have HS := Lib.hid hs2
      clear hs hs2 hd hu hxk
      by_cases hbig : 1099511627776 < n' + x
      · have HR := Lib.hid (HS.out.trans (if_pos (show sumMost < n' + x by unfold sumMost; omega)))
        go_wp2
        go_ret
        exact ⟨ret_int (by rw [HR.out]; rfl), rfl⟩
      · have HR := Lib.hid (HS.out.trans (if_neg (show ¬ sumMost < n' + x by unfold sumMost; omega)))
        have hle : n' + x ≤ 1099511627776 := by omega
        clear hbig
        go_wp2
        go_round
        case rel => exact ⟨k + 1, n' + x, by omega, by omega, by go_num, by go_num, HR.out⟩
        case measure => simp [intOf]; omega
    · have hR := Lib.hid (hs.out.trans (by rw [List.drop_eq_nil_of_le (by have := HL.out; omega)]; rfl : sumTo n' (xs.drop k) = n'))
      have hge : m ≤ k := by omega
      clear hlt hs
      go_wp2
      go_ret
      exact ⟨ret_int (by rw [hR.out]), rfl⟩
/-! ### A slice of steps -/
structure Sp where
  b : Bool
  kind : Int
  v : Value
  k : Int
  yes : Bool
  m : List UInt8
instance : Inhabited Sp := ⟨⟨false, 0, .slice none 0 0, 0, false, []⟩⟩
def Sp.cells (s : Sp) : List Value := [.bool s.b, .int .i64 s.kind, s.v, .int .i64 s.k, .bool s.yes]
theorem Sp.cells_length (s : Sp) : s.cells.length = 5 := rfl
def Sp.ok (W : World) (B : Nat) (s : Sp) : Prop := (-9223372036854775808 ≤ s.k ∧ s.k ≤ 9223372036854775807) ∧ ∃ A c, s.v = .slice A s.m.length c ∧ s.m.length ≤ c ∧ c ≤ maxLen ∧ Reads W B 1 A s.m.length (bc s.m)
theorem sum_two (acc k : Nat) (h : sumTo acc [k, 10] ≤ 10000) : acc + k + 10 ≤ 10000 := by
  unfold sumTo at h
  split at h
  · unfold sumMost at h; omega
  · unfold sumTo at h
    split at h
    · unfold sumMost at h; omega
    · unfold sumTo at h; omega
/-- What small hands back. -/
def RetSmall (w : World) (n : Nat) (ss : List Sp) (e : Ending) (w' : World) : Prop := ∃ b, e = .returned (.bool b) ∧ Below w.heap.size w w' ∧ (b = true → n ≤ 120 ∧ ∀ s ∈ ss, s.m.length ≤ 10000)
set_option maxRecDepth 100000 in
set_option maxHeartbeats 4000000 in
theorem small_any (w : World) (A : Option Addr) (n c : Nat) (ss : List Sp) (hr : Reads w w.heap.size 5 A n (ss.flatMap Sp.cells)) (hs : ∀ s ∈ ss, s.ok w w.heap.size) (hl : ss.length = n) (hn : n ≤ 9223372036854775807) :
    Calls Try.prog 12 #[.slice A n c] w (RetSmall w n ss) := by
  have HR := Lib.hid hr
  have HS := Lib.hid hs
  have HL := Lib.hid hl
  clear hr hs hl
  go_enter Try.func12, Try.ntmps12
  go_wp2
  go_loopw [3, 4] (fun s3 s4 wr => ∃ (i acc : Nat), i ≤ n ∧ acc ≤ 10000 ∧ s3 = .int .i64 acc ∧ s4 = .int .i64 i ∧ Hid (∀ s ∈ ss.take i, s.m.length ≤ 10000) ∧ Hid (Below w.heap.size w wr)) (fun _ s _ => n - (intOf s).toNat)
  case atStart => exact ⟨0, 0, Nat.zero_le _, Nat.zero_le _, rfl, rfl, Lib.hid (fun s h => by cases h), Lib.hid (Below.refl _ _)⟩
  case round =>
    obtain ⟨i, acc, hi, hacc, rfl, rfl, HM, HB⟩ := hrel
    by_cases hlt : i < n
    · obtain ⟨s, hsi⟩ : ∃ s, ss[i]? = some s := ⟨_, List.getElem?_eq_getElem (by have := HL.out; omega)⟩
      obtain ⟨ad, rfl, hab, hcell⟩ := flat_reads Sp.cells_length (HR.out.below HB.out) hsi hlt
      obtain ⟨_, As, cs, hsv, hsc, hcm, _⟩ := HS.out s (List.mem_of_getElem? hsi)
      have HSI := Lib.hid hsi
      obtain ⟨ml, HML⟩ : ∃ ml, Hid (s.m.length = ml) := ⟨_, Lib.hid rfl⟩
      have x2 : wr.cell? ⟨(ad.add (i * 5)).block, (ad.add (i * 5)).off + 2, none⟩ = some (.slice As ml cs) := by
        have := hcell 2 s.v rfl
        rw [hsv, HML.out] at this
        exact this
      have hml : ml ≤ 9223372036854775807 := by rw [HML.out] at hsc; unfold maxLen at hcm; omega
      clear hcell hsv hsi
      have hbs := HB.out.size
      have HSM : Hid (∀ W, W = wr.alloc (.cells #[.int .i64 ml, .int .i64 10] 3) → Calls Try.prog 23 #[.int .i64 acc, .slice (some ⟨wr.heap.size, 0, none⟩) 2 2] W fun e w' => e = .returned (.int .i64 (sumTo acc [ml, 10])) ∧ W = w') := Lib.hid (by
        intro W hW
        refine asum_any acc _ 2 2 [ml, 10] W (B := W.heap.size) ?_ (by unfold sumMost; omega) (by omega) (fun x hx => ?_)
        · rw [hW]
          have := reads_new wr [.int .i64 ml, .int .i64 10] 3
          rw [alloc_size]
          exact this
        · simp at hx
          rcases hx with rfl | rfl
          · exact hml
          · decide)
      obtain ⟨a2, HA2⟩ : ∃ a2, Hid (sumTo acc [ml, 10] = a2) := ⟨_, Lib.hid rfl⟩
      rw [HA2.out] at HSM
      have HTS : Hid (a2 ≤ 10000 → ∀ s ∈ ss.take (i + 1), s.m.length ≤ 10000) := Lib.hid (by
        intro hle u hu
        have h2 := sum_two acc ml (by rw [HA2.out]; exact hle)
        rw [List.take_add_one, HSI.out] at hu
        rcases List.mem_append.1 hu with hu | hu
        · exact HM.out u hu
        · simp at hu
          subst hu
          rw [HML.out]
          omega)
      go_upto_region 6 with (go_at_call 23; ((with_reducible refine (HSM.out _ rfl).mono ?_); rintro e w2 ⟨rfl, rfl⟩))
      have HB2 : Hid (Below w.heap.size w (wr.alloc (.cells #[.int .i64 ml, .int .i64 10] 3))) := Lib.hid (HB.out.alloc hbs _)
      generalize (wr.alloc (.cells #[.int .i64 ml, .int .i64 10] 3)) = W2 at *
      by_cases hbig : 10000 < a2
      · have hb' : (10000 : Int) < (a2 : Int) := by omega
        go_wp2
        go_ret
        exact ⟨false, rfl, HB2.out, fun h => by cases h⟩
      · have hb' : decide ((10000 : Int) < (a2 : Int)) = false := by simp; omega
        have hle : a2 ≤ 10000 := by omega
        clear hbig
        go_wp2
        go_roundw
        case rel => exact ⟨i + 1, a2, by omega, hle, rfl, by go_num, Lib.hid (HTS.out hle), HB2⟩
        case measure => simp [intOf]; omega
    · obtain rfl : n = i := by omega
      have hways : (n : Int) ≤ 120 ∨ ¬ (n : Int) ≤ 120 := Decidable.em _
      rcases hways with h1 | h1
      · go_wp2
        go_ret
        refine ⟨true, rfl, HB.out, fun _ => ⟨by omega, fun s hs => HM.out s ?_⟩⟩
        rw [List.take_of_length_le (by rw [HL.out]; exact Nat.le_refl _)]
        exact hs
      · have h2 : decide ((n : Int) ≤ 120) = false := by simp; omega
        go_wp2
        go_ret
        exact ⟨false, rfl, HB.out, fun h => by cases h⟩
set_option maxRecDepth 100000 in
theorem rnew_yes (w : World) (z : Int) (l : Nat) (hz : z = (l : Int)) (h1 : 1 ≤ l) (h2 : l ≤ 1099511627776) : Calls Try.prog 24 #[.int .i64 z] w fun e w' => e = .returned (.tuple #[.pointer (some ⟨w.heap.size, 0, none⟩), .int .i64 0]) ∧ RsAt w.heap.size w' w.heap.size (.slice none 0 0) [] (newSe l) ∧ Below w.heap.size w w' ∧ w'.heap.size = w.heap.size + 1 := by
  subst hz
  have d1 : decide ((l : Int) < 1) = false := by simp; omega
  have d2 : decide ((1099511627776 : Int) < (l : Int)) = false := by simp; omega
  go_enter Try.func24, Try.ntmps24
  go_wp2_with (refine wpList_unguard rfl ?_)
  go_ret2
  exact ⟨rfl, ⟨Nat.le_refl _, heap_alloc_new w _, Row.nil_ _ _ _, ⟨rfl, fun i u m h => by simp at h⟩⟩, (Below.refl _ _).alloc (Nat.le_refl _) _, alloc_size _ _⟩
set_option maxRecDepth 100000 in
theorem begin_any (w : World) (a base : Nat) (hb : base ≤ w.heap.size) (hc : w.heap[a]? = some (.cells #[.pointer none, .pointer none, .int .i64 0, .slice none 0 0, .slice none 0 0, .slice none 0 0] 40 (0, 0))) :
    Calls Try.prog 13 #[.pointer (some ⟨a, 0, none⟩)] w fun e w' => e = .returned (.bool true) ∧
      w'.heap[a]? = some (.cells #[.pointer (some ⟨w.heap.size, 0, none⟩), .pointer (some ⟨w.heap.size + 1, 0, none⟩), .int .i64 1, .slice none 0 0, .slice none 0 0, .slice none 0 0] 40 (0, 0)) ∧
      SesAt base w' w.heap.size (.slice none 0 0) [] (newSe 1) ∧ RsAt base w' (w.heap.size + 1) (.slice none 0 0) [] (newSe 1) ∧ Kept (fun k => k = a) w w' ∧ w'.heap.size = w.heap.size + 2 := by
  have hal : a < w.heap.size := (Array.getElem?_eq_some_iff.1 hc).1
  have c2 : w.cell? ⟨a, 2, none⟩ = some (.int .i64 0) := by rw [cell_of_row w a 2 _ _ (0, 0) hc]; rfl
  have fr : ∀ j, w.frozen? ⟨a, j, none⟩ = false := fun j => by simp [World.frozen?, hc]
  have f2 := fr 2
  have HC := Lib.hid hc
  clear hc fr
  go_enter Try.func13, Try.ntmps13
  go_upto_region 2 with fail
  have HW : Hid ((w.setCell ⟨a, 2, none⟩ (.int .i64 1)).heap[a]? = some (.cells #[.pointer none, .pointer none, .int .i64 1, .slice none 0 0, .slice none 0 0, .slice none 0 0] 40 (0, 0)) ∧ Kept (fun k => k = a) w (w.setCell ⟨a, 2, none⟩ (.int .i64 1)) ∧ (w.setCell ⟨a, 2, none⟩ (.int .i64 1)).heap.size = w.heap.size) := Lib.hid ⟨heap_setCell_at HC.out 2 _, kept_one _ _ _ _, World.size_setCell ..⟩
  generalize w.setCell ⟨a, 2, none⟩ (.int .i64 1) = W1 at *
  clear c2 f2
  have d2 : W1.cell? ⟨a, 2, none⟩ = some (.int .i64 1) := by rw [cell_of_row W1 a 2 _ _ (0, 0) HW.out.1]; rfl
  have ha1 : a < W1.heap.size := by rw [HW.out.2.2]; exact hal
  go_upto_region 4 with (first
    | (go_at_call 7; refine (new_yes _ 1 1 rfl (by omega) (by omega)).mono ?_; rintro e w2 ⟨rfl, h2, hb2, hs2⟩; have HS2 := Lib.hid h2; have HB2 := Lib.hid hb2; have e2 : w2.cell? ⟨a, 2, none⟩ = some (.int .i64 1) := (hb2.cell (p := ⟨a, 2, none⟩) ha1).trans d2; clear h2 hb2)
    | (go_at_call 24; refine (rnew_yes _ 1 1 rfl (by omega) (by omega)).mono ?_; rintro e w3 ⟨rfl, h3, hb3, hs3⟩; have HS3 := Lib.hid h3; have HB3 := Lib.hid hb3; clear h3 hb3))
  have hc3 : w3.heap[a]? = some (.cells #[.pointer none, .pointer none, .int .i64 1, .slice none 0 0, .slice none 0 0, .slice none 0 0] 40 (0, 0)) := by rw [HB3.out.block a (Nat.lt_of_lt_of_le ha1 HB2.out.size), HB2.out.block a ha1]; exact HW.out.1
  have g0 : w3.cell? ⟨a, 0, none⟩ = some (.pointer none) := by rw [cell_of_row w3 a 0 _ _ (0, 0) hc3]; rfl
  have g1 : w3.cell? ⟨a, 1, none⟩ = some (.pointer none) := by rw [cell_of_row w3 a 1 _ _ (0, 0) hc3]; rfl
  have fr : ∀ j, w3.frozen? ⟨a, j, none⟩ = false := fun j => by simp [World.frozen?, hc3]
  have f0 := fr 0
  have f1 := fr 1
  have HC3 := Lib.hid hc3
  clear hc3 fr
  go_wp2_with (refine wpList_unguard rfl ?_)
  go_ret
  have hz1 := HW.out.2.2
  have q2 : w2.heap.size = w.heap.size + 1 := by omega
  have hk : Kept (fun k => k = a) w3 ((w3.setCell ⟨a, 0, none⟩ (.pointer (some ⟨W1.heap.size, 0, none⟩))).setCell ⟨a, 1, none⟩ (.pointer (some ⟨w2.heap.size, 0, none⟩))) := (kept_one _ _ _ _).trans (kept_one _ _ _ _) (fun _ _ e => e)
  have hby : ∀ g c, w3.heap[g]? = some (.cells c 5 (0, 0)) → ¬ g = a := fun g c hg e => by rw [e, HC3.out] at hg; injection hg with hg; injection hg with _ hg; cases hg
  have hs : SesAt base w3 W1.heap.size (.slice none 0 0) [] (newSe 1) := by
    have := HS2.out.grow HB3.out
    exact ⟨by omega, this.cell, this.row.more (by omega), this.msgs⟩
  have hr : RsAt base w3 w2.heap.size (.slice none 0 0) [] (newSe 1) := ⟨by omega, HS3.out.cell, HS3.out.row.more (by omega), HS3.out.msgs⟩
  have z3 : w3.heap.size = w.heap.size + 2 := by omega
  rw [q2] at hk hr
  rw [hz1] at hk hs ⊢
  refine ⟨rfl, heap_setCell_at (heap_setCell_at HC3.out 0 _) 1 _, hs.keep hk (by omega) (fun g hg => by cases hg) hby, hr.keep hk (by omega) (fun g hg => by cases hg) hby, (HW.out.2.1.trans (Kept.of_below (HB2.out.trans (HB3.out.mono HB2.out.size)) : Kept (fun _ => False) _ _) (fun _ _ e => e.elim)).trans hk (fun _ _ e => e), by simp only [World.size_setCell]; omega⟩
end Go.Proofs.Ytchhejheobceiaa
