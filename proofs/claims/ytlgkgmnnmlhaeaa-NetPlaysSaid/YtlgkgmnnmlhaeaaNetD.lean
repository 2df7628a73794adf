import Derived.Test.YtlgkgmnnmlhaeaaNetC
namespace Go.Proofs.Ytlgkgmnnmlhaeaa
open Go.RowKit
set_option linter.unusedVariables false

theorem round_ex (k n : Int) (w : World) (hn : 0 < n) (hn1 : n ≤ 4611686018427387904) :
    Calls Try.prog 10 #[.int .i64 k, .int .i64 n] w fun e w' => ∃ r : Int, e = .returned (.int .i64 r) ∧ 0 ≤ r ∧ r < n ∧ w = w' :=
  (round_any k n w hn hn1).mono fun e w' ⟨h1, h2⟩ => ⟨_, h1, (roundZ_bd k n hn).1, (roundZ_bd k n hn).2, h2⟩
/-- What was sent, and what of it is left. -/
structure Sent (d : Int) (i : Nat) (ps : List Pk) (lb : List UInt8) : Prop where
  len : ps.length = i
  pk : ∀ (p : Pk), p ∈ ps → 1 ≤ p.f ∧ p.f ≤ 5 ∧ 1 ≤ p.t ∧ p.t ≤ 5 ∧ p.b.length = 1
  left : (ps.filter (fun p => !hitP d p)).map Pk.b = lb.map (fun x => [x])
theorem Sent.leftlen {d : Int} {i : Nat} {ps : List Pk} {lb : List UInt8} (h : Sent d i ps lb) : (ps.filter (fun p => !hitP d p)).length = lb.length ∧ lb.length ≤ i := by
  have := congrArg List.length h.left
  simp only [List.length_map] at this
  exact ⟨this, by rw [← this, ← h.len]; exact List.length_filter_le _ _⟩
theorem Sent.next {d : Int} {i : Nat} {ps : List Pk} {lb : List UInt8} (h : Sent d i ps lb) (f t : Int) (hf : 1 ≤ f ∧ f ≤ 5) (ht : 1 ≤ t ∧ t ≤ 5) :
    Sent d (i + 1) (ps ++ [pk1 f t i]) (if hitP d (pk1 f t i) then lb else lb ++ [UInt8.ofNat i]) := by
  refine ⟨by simp [h.len], ?_, ?_⟩
  · intro p hp
    rcases List.mem_append.1 hp with hp | hp
    · exact h.pk p hp
    · simp at hp; subst hp; exact ⟨hf.1, hf.2, ht.1, ht.2, rfl⟩
  · rw [List.filter_append, List.map_append, h.left]
    cases hh : hitP d (pk1 f t i)
    · rw [List.filter_cons_of_pos (by rw [hh]; rfl)]; simp [pk1]
    · rw [List.filter_cons_of_neg (by rw [hh]; simp)]; simp

/-- .. and what lies ahead of where append writes stays. -/
theorem append_kept {P : Program} (w : World) (t ty : TypeId) (base : Nat) (e : TypeId) (i : TypeInfo) (z : Value) (size bytes : Nat) (ht : P.underlying t = some (.slice e)) (hi : P.info? e = some i) (hz : i.zero = some z)
    (hsize : i.size = size) (hby : i.bytes = bytes) (hzs : z.cells.size = size) (hsz : 0 < size)
    (v : Value) (n : Nat) (xs : List Value) (hown : w.ownsRow base e size v n xs)
    (ad : Addr) (m c : Nat) (news : List Value) (hl : news.length = m * size) (hc : ∀ j u, news[j]? = some u → w.cell? (ad.add j) = some u) (h1 : ∀ u ∈ news, u.oneCell' = true)
    (h63 : n + m ≤ maxLen) (hbytes : (n + m) * bytes ≤ 140737488355328) (hbase : base ≤ w.heap.size) :
    ∃ v' w', (Builtin.append_ #[t, t] ty #[v, .slice (some ad) m c]).run P w = .ok v' w' ∧ w'.ownsRow base e size v' (n + m) (xs ++ news) ∧ w.grownBy w' v.ownBlock ∧
      ∀ b2 e2 s2 v2 n2 xs2, w.ownsRow b2 e2 s2 v2 n2 xs2 → (n2 * s2 ≤ n * size ∨ v2.ownBlock ≠ v.ownBlock ∨ v.ownBlock = none) → w'.ownsRow b2 e2 s2 v2 n2 xs2 := by
  obtain ⟨v', w', hrun, h2, h3, _⟩ := run_append_own (P := P) w base t ty e i z size bytes ht hi hz hsize hby hzs hsz v n xs hown ad m c news hl hc h1 h63 hbytes hbase
  refine ⟨v', w', hrun, h2, h3, fun b2 e2 s2 v2 n2 xs2 hr hcase => ?_⟩
  rcases hown.2 with ⟨hv, hn⟩ | ⟨g, cap, cur, hv, hB, hg, hnc, hmx, hs, htk⟩
  · subst hv
    exact hr.kept h3 (by show _ ∨ v2.ownBlock ≠ none; cases v2.ownBlock <;> simp)
  · subst hv
    by_cases hvg : v2.ownBlock = some g
    · have hns : n2 * s2 ≤ n * size := by
        rcases hcase with h | h | h
        · exact h
        · exact absurd hvg h
        · cases h
      by_cases hroom : n + m ≤ cap
      · have hcell : ∀ j, j < cap * size → (w.cell? ⟨g, j, none⟩).isSome = true ∧ w.frozen? ⟨g, j, none⟩ = false := fun j hj => by
          refine ⟨?_, hown.frozenAt _⟩
          rw [cell_of_row w g j cur e (0, 0) hg]
          simp [hs, hj]
        have hmul : n * size + m * size ≤ cap * size := by rw [← Nat.add_mul]; exact Nat.mul_le_mul_right _ hroom
        have hrun2 := run_append_room_cells (P := P) w t ty e i ht hi g 0 n cap ad m c news (by rw [hsize]; exact hl) hc h1 hroom (fun j hj => by rw [hsize]; exact (hcell _ (by omega)).1) (fun j hj => by rw [hsize]; exact (hcell _ (by omega)).2)
        rw [hrun, hsize] at hrun2
        injection hrun2 with _ e2'
        subst e2'
        obtain ⟨g1, g2⟩ := hr
        refine ⟨g1, ?_⟩
        rcases g2 with g2 | ⟨g', cap', cur', hv', hB', hg', hnc', hm', hs', htk'⟩
        · exact .inl g2
        · subst hv'
          injection hvg with hvg
          simp only at hvg
          subst hvg
          rw [hg] at hg'
          injection hg' with hg'
          injection hg' with hcur hee
          subst hcur hee
          obtain ⟨cur2, k1, k2, k3⟩ := setCells_heap g' e (0, 0) news (0 + n * size) w cur hg
          have hn2 : n2 * s2 ≤ cur.size := by rw [hs']; exact Nat.mul_le_mul_right _ hnc'
          refine .inr ⟨g', cap', cur2, rfl, hB', k1, hnc', hm', by rw [k2]; exact hs', ?_⟩
          rw [← htk']
          apply List.ext_getElem?
          intro q
          by_cases hq : q < n2 * s2
          · rw [List.getElem?_take_of_lt hq, List.getElem?_take_of_lt hq, Array.getElem?_toList, Array.getElem?_toList, k3 q (by omega), if_neg (by omega)]
          · rw [List.getElem?_eq_none (by rw [List.length_take]; omega), List.getElem?_eq_none (by rw [List.length_take]; omega)]
      · obtain ⟨v3, w3, hrun2, g2, g3⟩ := run_append_arg_grows (P := P) w t ty e i z size bytes ht hi hz hsize hby hzs hsz ⟨g, 0, none⟩ n cap xs hown.1 (hown.cells (g := g) rfl) ad m c news hl hc (by omega) h63 hbytes
        rw [hrun] at hrun2
        injection hrun2 with e1 e2'
        subst e1 e2'
        exact hr.kept g3 (by cases v2.ownBlock <;> simp)
    · exact hr.kept h3 (.inr hvg)
/-- append(v, x...) at bytes, at the operation: what lies ahead stays. -/
theorem app_left (w : World) {ops : Array Oper} {rest : List Oper} {o : Oper} {a : Act} {Q : Exit → Act → World → Prop} (hgd : o.guard = none) (s x : Operand)
    (ho : o.op = .call { callee := .builtin .append, args := #[s, x], argTypes := #[29, 29] })
    (base : Nat) (v : Value) (n : Nat) (xs : List Value) (hs : a.eval s = v) (hown : w.ownsRow base 5 1 v n xs)
    (ad : Addr) (B c : Nat) (b : Value) (hx : a.eval x = .slice (some ad) 1 c) (hr : Reads w B 1 (some ad) 1 [b]) (h1 : b.oneCell' = true)
    (hn : n ≤ 100000) (hbase : base ≤ w.heap.size)
    (h : ∀ v' w', w'.ownsRow base 5 1 v' (n + 1) (xs ++ [b]) → w.grownBy w' v.ownBlock → (∀ b2 e2 s2 v2 n2 xs2, w.ownsRow b2 e2 s2 v2 n2 xs2 → (n2 * s2 ≤ n * 1 ∨ v2.ownBlock ≠ v.ownBlock ∨ v.ownBlock = none) → w'.ownsRow b2 e2 s2 v2 n2 xs2) → wpList Try.prog ops Q rest (a.put o.dst v') w') : wpList Try.prog ops Q (o :: rest) a w := by
  obtain ⟨i0, hi, hz0, hz1, hz2⟩ := info_parts Try.infoByte
  obtain ⟨ad', e', _, hc⟩ := hr.2 (by omega)
  injection e' with e'
  subst e'
  obtain ⟨v', w', hrun, h2, h3, h4⟩ := append_kept (P := Try.prog) w _ o.type base _ i0 _ 1 1 Try.underlying29 hi hz0 hz1 hz2 rfl (by omega) v n xs hown ad 1 c [b] hr.1 hc (by simpa using h1) (by simp only [maxLen]; omega) (by omega) hbase
  refine wpList_plain hgd fun K hK => ?_
  unfold Oper.wp execOp
  simp only [ho, resolve, invoke, builtin, Sem.run_bind, Sem.run_pure, Result.andThen_ok, List.map_toArray, List.map_cons, List.map_nil, hs, hx, hrun]
  exact hK _ _ (h v' w' h2 h3 h4)

theorem NetAt.leftapp {B : Nat} {w w' : World} {a L : Nat} {v u : Value} {vs : List PkV} {ps : List Pk} {xs : List Value} (h : NetAt B w a v vs ps) (hb1 : ∀ p ∈ ps, p.b.length = 1) (hO : w.ownsRow B 5 1 u L xs) (hnil : L = 0 → u.ownBlock = none) (hg : w.grownBy w' u.ownBlock)
    (hk : ∀ b2 e2 s2 v2 n2 xs2, w.ownsRow b2 e2 s2 v2 n2 xs2 → (n2 * s2 ≤ L * 1 ∨ v2.ownBlock ≠ u.ownBlock ∨ u.ownBlock = none) → w'.ownsRow b2 e2 s2 v2 n2 xs2) : NetAt B w' a v vs ps := by
  have hcase : ∀ {q : Option Nat}, (u.ownBlock = none ∨ q ≠ u.ownBlock) → (q ≠ u.ownBlock ∨ u.ownBlock = none) := fun h => h.elim .inr .inl
  refine ⟨h.lo, ?_, hk _ _ _ _ _ _ h.row (.inr (hcase ?_)), h.len, fun i x p h1 h2 => ?_⟩
  · rw [hg.block a h.lt (fun e => own_apart_one hO h.cell (by decide) e.symm)]; exact h.cell
  · cases hu : u.ownBlock with
    | none => exact .inl rfl
    | some g => exact .inr (fun e => own_apart hO h.row (by decide) hu e)
  · obtain ⟨g1, g2, g3⟩ := h.pks i x p h1 h2
    refine ⟨g1, g2, hk _ _ _ _ _ _ g3 ?_⟩
    rcases Nat.eq_zero_or_pos L with h0 | h0
    · exact .inr (.inr (hnil h0))
    · left; rw [hb1 p (List.mem_of_getElem? h2)]; omega
set_option maxRecDepth 100000 in
set_option maxHeartbeats 8000000 in
theorem netClears_walk (w : World) (A : Option Addr) (n c : Nat) (zs : List Int) (hz : Reads w w.heap.size 1 A n (zs.map (Value.int .i64))) (hzw : ∀ z ∈ zs, -9223372036854775808 ≤ z ∧ z ≤ 9223372036854775807) (hnc : n ≤ c) (hm : c ≤ maxLen) (d : Int) (w1 : (Lit.int .i64 d).wf = true) :
    Calls Try.prog 5 #[.slice A n c, .int .i64 d] w (RetTrue w) := by
  obtain ⟨hd0, hd1⟩ := wf_int' w1
  have hmx : n ≤ 9223372036854775807 := by unfold maxLen at hm; omega
  have HZ := Lib.hid hz
  have HZW := Lib.hid hzw
  clear w1 hz hzw
  have hbad : ((60 : Int) < (n : Int)) ∨ (decide ((60 : Int) < (n : Int)) = false ∧ d < 1) ∨ (decide ((60 : Int) < (n : Int)) = false ∧ decide (d < 1) = false ∧ 5 < d) ∨ (decide ((60 : Int) < (n : Int)) = false ∧ decide (d < 1) = false ∧ decide (5 < d) = false) := by
    simp only [decide_eq_false_iff_not]; omega
  rcases hbad with g1 | ⟨g0, g1⟩ | ⟨g0, g1, g2⟩ | ⟨g0, g1, g2⟩
  case inl | inr.inl | inr.inr.inl =>
    go_enter Try.func5, Try.ntmps5
    go_wp2_with (first
      | (refine wpList_unguard rfl ?_)
      | (go_at_call 8; refine (awake_any _).mono ?_; rintro e w' ⟨rfl, hb⟩))
    go_ret
    exact ⟨rfl, hb⟩
  have hn60 : n ≤ 60 := by simp at g0; omega
  have hd5 : 1 ≤ d ∧ d ≤ 5 := by simp at g1 g2; omega
  obtain ⟨hd6, hd7⟩ := hd5
  go_enter Try.func5, Try.ntmps5
  go_wp2_with (first
    | (refine wpList_unguard rfl ?_)
    | (go_at_call 13; refine (new_any _).mono ?_; rintro e wn ⟨rfl, rfl⟩))
  have HN0 := Lib.hid (net_new w)
  have HB0 : Hid (Below w.heap.size w (w.alloc (.cells #[.slice none 0 0] 27))) := Lib.hid ((Below.refl _ _).alloc (Nat.le_refl _) _)
  clear g0 g1 g2
  go_loopw [6, 7, 8] (fun s6 s7 s8 wr => ∃ (i n0 : Nat) (v : Value) (vs : List PkV) (ps : List Pk) (lb : List UInt8), i ≤ n ∧ s6 = .int .i64 n0 ∧ s8 = .int .i64 i ∧ n0 ≤ 60 ∧ Hid (n0 + lb.length = i) ∧ Hid (Sent d i ps lb) ∧ Hid (NetAt w.heap.size wr w.heap.size v vs ps) ∧ Hid (Below w.heap.size w wr) ∧ Hid (wr.ownsRow w.heap.size 5 1 s7 lb.length (bc lb)) ∧ Hid (lb.length = 0 → s7.ownBlock = none)) (fun _ _ s8 _ => n - (intOf s8).toNat)
  case atStart => exact ⟨0, 0, _, [], [], [], Nat.zero_le _, rfl, rfl, Nat.zero_le _, Lib.hid rfl, Lib.hid ⟨rfl, by simp, rfl⟩, HN0, HB0, Lib.hid (World.ownsRow_nil _ _ _ _), Lib.hid fun _ => rfl⟩
  case round =>
    obtain ⟨i, n0, v, vs, ps, lb, hi, rfl, rfl, hn0, HNL, HSE, HN, HB, HO, HNIL⟩ := hrel
    by_cases hlt : i < n
    · obtain ⟨ad, u, rfl, hab, hu, hcell⟩ := (HZ.out.below HB.out).at_ hlt
      rw [List.getElem?_map, Option.map_eq_some_iff] at hu
      obtain ⟨z, hzm, rfl⟩ := hu
      obtain ⟨hz0, hz1⟩ := HZW.out z (List.mem_of_getElem? hzm)
      clear hzm
      refine code_hide (fun Q0 HQ0 => ?_)
      go_upto_region 10 with (go_at_call 10; refine (round_ex _ 5 _ (by omega) (by omega)).mono ?_; rintro e w' ⟨fz, rfl, hf0, hf1, rfl⟩)
      obtain ⟨f, hfe⟩ : ∃ f : Int, 1 + fz = f := ⟨_, rfl⟩
      rw [hfe]
      have hf2 : 1 ≤ f := by omega
      have hf3 : f ≤ 5 := by omega
      clear hfe hf0 hf1
      go_upto_region 11 with (go_at_call 10; refine (round_ex _ 4 _ (by omega) (by omega)).mono ?_; rintro e w' ⟨r, rfl, hr0, hr1, rfl⟩)
      obtain ⟨t, hte⟩ : ∃ t : Int, 1 + (f + r) % 5 = t := ⟨_, rfl⟩
      rw [hte]
      have ht0 : 1 ≤ t := by omega
      have ht1 : t ≤ 5 := by omega
      have htf : f ≠ t := by omega
      have hftb : (f == t) = false := by simpa using htf
      clear hte
      have HSL := Lib.hid HSE.out.len
      have HS := Lib.hid (send_j w.heap.size wr w.heap.size v vs ps HN.out HB.out.size (by have := HSE.out.len; omega) f t (by simp [nodeL]; omega) (by simp [nodeL]; omega) htf i (by omega))
      clear htf
      go_upto_region 14 with (first
        | (refine wpList_unguard rfl ?_)
        | (go_at_call 9; refine HS.out.mono ?_; rintro e w2 ⟨rfl, v2, vs2, hn2, hk2, hg2⟩; have HN2 := Lib.hid hn2; have HK2 := Lib.hid hk2; clear hn2 hk2 hg2))
      have HO2 : Hid (w2.ownsRow w.heap.size 5 1 u7 lb.length (bc lb)) := Lib.hid (HK2.out.own HO.out (fun g hg hf => Or.elim hf (fun e => own_apart_one HO.out HN.out.cell (by decide) (by rw [hg, e])) (fun e => own_apart HO.out HN.out.row (by decide) hg e)))
      have HB2 : Hid (Below w.heap.size w w2) := Lib.hid (HB.out.trans (HK2.out.below HB.out.size (fun g hf => Or.elim hf (fun e => by omega) (fun e => (HN.out.row.lt g e).1))))
      clear HK2 HN HB HO HS
      have hways : (f == d) = true ∧ Hid (hitP d (pk1 f t i) = true) ∨ ((f == d) = false ∧ (t == d) = true ∧ Hid (hitP d (pk1 f t i) = true)) ∨ ((f == d) = false ∧ (t == d) = false ∧ Hid (hitP d (pk1 f t i) = false)) := by
        by_cases e1 : f = d
        · left; exact ⟨by simpa using e1, Lib.hid (by simp [hitP, pk1, e1])⟩
        · by_cases e2 : t = d
          · right; left; exact ⟨by simpa using e1, by simpa using e2, Lib.hid (by simp [hitP, pk1, e2])⟩
          · right; right; exact ⟨by simpa using e1, by simpa using e2, Lib.hid (by simp [hitP, pk1, e1, e2])⟩
      rcases hways with ⟨e1, HHIT⟩ | ⟨e1, e2, HHIT⟩ | ⟨e1, e2, HHIT⟩
      · go_wp2_with (refine wpList_unguard rfl ?_)
        refine hide_out HQ0 ?_
        go_step
        go_roundw
        case rel =>
          have hsn := HSE.out.next f t ⟨hf2, hf3⟩ ⟨ht0, ht1⟩
          rw [HHIT.out, if_pos rfl] at hsn
          exact ⟨i + 1, n0 + 1, v2, vs2, ps ++ [pk1 f t i], lb, by omega, by go_num, by go_num, by have := HNL.out; omega, Lib.hid (by have := HNL.out; omega), Lib.hid hsn, HN2, HB2, HO2, HNIL⟩
        case measure => simp [intOf]; omega
      · go_wp2_with (refine wpList_unguard rfl ?_)
        refine hide_out HQ0 ?_
        go_step
        go_roundw
        case rel =>
          have hsn := HSE.out.next f t ⟨hf2, hf3⟩ ⟨ht0, ht1⟩
          rw [HHIT.out, if_pos rfl] at hsn
          exact ⟨i + 1, n0 + 1, v2, vs2, ps ++ [pk1 f t i], lb, by omega, by go_num, by go_num, by have := HNL.out; omega, Lib.hid (by have := HNL.out; omega), Lib.hid hsn, HN2, HB2, HO2, HNIL⟩
        case measure => simp [intOf]; omega
      · have HO3 : Hid ((w2.alloc (.cells #[.int .u8 (i : Int)] 5)).ownsRow w.heap.size 5 1 u7 lb.length (bc lb)) := Lib.hid (HO2.out.kept (World.grownBy_alloc w2 _ none) (own_or _))
        have HN3 : Hid (NetAt w.heap.size (w2.alloc (.cells #[.int .u8 (i : Int)] 5)) w.heap.size v2 vs2 (ps ++ [pk1 f t i])) := Lib.hid (HN2.out.grow ((Below.refl _ _).alloc (Nat.le_refl _) _))
        have HB3 : Hid (Below w.heap.size w (w2.alloc (.cells #[.int .u8 (i : Int)] 5))) := Lib.hid (HB2.out.alloc HB2.out.size _)
        have hlb : lb.length ≤ 60 := by have := HNL.out; omega
        go_wp2_with (first
          | (refine wpList_unguard rfl ?_)
          | (at_builtin; refine app_left _ rfl (.tmp 72) (.tmp 75) rfl w.heap.size _ lb.length (bc lb) rfl HO3.out _ _ _ (.int .u8 (i : Int)) rfl (reads_newS w2 [.int .u8 (i : Int)] _ 1 1 rfl) rfl (by omega) HB3.out.size ?_; intro v3 w4 ho4 hg4 hk4; have HO4 := Lib.hid ho4; have HG4 := Lib.hid hg4; have HK4 := Lib.hid hk4; clear ho4 hg4 hk4))
        refine hide_out HQ0 ?_
        go_step
        go_roundw
        case rel =>
          have hsn := HSE.out.next f t ⟨hf2, hf3⟩ ⟨ht0, ht1⟩
          rw [HHIT.out] at hsn
          refine ⟨i + 1, n0, v2, vs2, ps ++ [pk1 f t i], lb ++ [UInt8.ofNat i], by omega, rfl, by go_num, hn0, Lib.hid (by have := HNL.out; simp; omega), Lib.hid hsn, Lib.hid (HN3.out.leftapp (fun p hp => (hsn.pk p hp).2.2.2.2) HO3.out HNIL.out HG4.out HK4.out), Lib.hid (HB3.out.trans ((Kept.of_grown (S := fun b => some b = u7.ownBlock) HG4.out (fun b e => e)).below HB3.out.size (fun b e => (HO3.out.lt b e.symm).1))), Lib.hid ?_, Lib.hid (fun h => by simp at h)⟩
          have e5 : bc (lb ++ [UInt8.ofNat i]) = bc lb ++ [.int .u8 (i : Int)] := by
            have : bc [UInt8.ofNat i] = [.int .u8 (i : Int)] := by show [Value.int .u8 ((UInt8.ofNat i).toNat : Int)] = _; rw [byte_nat (by omega)]
            rw [← this]; simp [bc, Lib.byteCells]
          rw [e5, List.length_append]; exact HO4.out
        case measure => simp [intOf]; omega
    · obtain rfl : n = i := by omega
      obtain ⟨L, HL⟩ : ∃ L, Hid (lb.length = L) := ⟨_, Lib.hid rfl⟩
      obtain ⟨kp, HKP⟩ : ∃ kp, Hid (ps.filter (fun p => !hitP d p) = kp) := ⟨_, Lib.hid rfl⟩
      have HKL : Hid (kp.length = L) := Lib.hid (by rw [← HKP.out, HSE.out.leftlen.1, HL.out])
      have HO' : Hid (wr.ownsRow w.heap.size 5 1 u7 L (bc lb)) := Lib.hid (by have := HO.out; rwa [HL.out] at this)
      obtain ⟨A7, c7, rfl, hc7, hm7, _⟩ := Owns.form (Or.inl HO'.out)
      have hL60 : L ≤ 60 := by have := HNL.out; have := HL.out; omega
      have HCL : Hid (Calls Try.prog 15 #[.pointer (some ⟨w.heap.size, 0, none⟩), .int .i64 d] wr fun e w' => e = .returned (.int .i64 (n0 : Int)) ∧ NetNow w.heap.size wr w.heap.size v kp w') := Lib.hid (by
        have h1 := clear_any w.heap.size wr w.heap.size v vs ps HN.out (by have := HSE.out.len; omega) d
        rw [HKP.out, HKL.out, HSE.out.len, show ((n : Int) - ((L : Nat) : Int)) = (n0 : Int) by have := HNL.out; have := HL.out; omega] at h1
        exact h1)
      have HKB : Hid (∀ (i : Nat) (p : Pk), kp[i]? = some p → ∃ x, lb[i]? = some x ∧ p.b = [x] ∧ (p.f == d) = false ∧ (p.t == d) = false) := Lib.hid fun i p hp => by
        have h1 := congrArg (·[i]?) HSE.out.left
        simp only [HKP.out, List.getElem?_map, hp, Option.map_some] at h1
        cases hx : lb[i]? with
        | none => rw [hx] at h1; simp at h1
        | some x =>
          rw [hx] at h1
          simp at h1
          have hmem : p ∈ ps.filter (fun p => !hitP d p) := by rw [HKP.out]; exact List.mem_of_getElem? hp
          have hh := (List.mem_filter.1 hmem).2
          simp [hitP] at hh
          exact ⟨x, rfl, h1, by simpa using hh.1, by simpa using hh.2⟩
      have hnn : ¬ n < n := by omega
      go_upto_region 19 with (first
        | (refine wpList_unguard rfl ?_)
        | (go_at_call 15; ((with_reducible refine HCL.out.mono ?_); rintro e w2 ⟨rfl, v2, vs2, hn2, hk2, hg2⟩; have HN2 := Lib.hid hn2; have HK2 := Lib.hid hk2; clear hn2 hk2 hg2; obtain ⟨A2, c2, hv2, _⟩ := Owns.form (Or.inl HN2.out.row); have HLEN : Hid (Calls Try.prog 12 #[.pointer (some ⟨w.heap.size, 0, none⟩)] w2 fun e w' => e = .returned (.int .i64 (L : Int)) ∧ w2 = w') := Lib.hid (len_any w2 w.heap.size A2 L c2 (by simp [maxLen]; omega) (by rw [cell_of_one HN2.out.cell, hv2, HKL.out])); clear hv2))
        | (go_at_call 12; ((with_reducible refine HLEN.out.mono ?_); rintro e w' ⟨rfl, rfl⟩)))
      have HO2 : Hid (w2.ownsRow w.heap.size 5 1 (.slice A7 L c7) L (bc lb)) := Lib.hid (HK2.out.own HO'.out (fun g hg hf => Or.elim hf (fun e => own_apart_one HO'.out HN.out.cell (by decide) (by rw [hg, e])) (fun e => own_apart HO'.out HN.out.row (by decide) hg e)))
      have HB2 : Hid (Below w.heap.size w w2) := Lib.hid (HB.out.trans (HK2.out.below HB.out.size (fun g hf => Or.elim hf (fun e => by omega) (fun e => (HN.out.row.lt g e).1))))
      clear HK2 HN HB HO HO' HCL HLEN HNIL
      go_wp2
      go_loopw [11] (fun s ww => ∃ j : Nat, j ≤ L ∧ s = .int .i64 j ∧ Hid (Below w2.heap.size w2 ww)) (fun s _ => L - (intOf s).toNat)
      case atStart => exact ⟨0, Nat.zero_le _, rfl, Lib.hid (Below.refl _ _)⟩
      case round =>
        obtain ⟨j, hj, rfl, HBJ⟩ := hrel
        by_cases hjl : j < L
        · refine code_hide (fun Q0 HQ0 => ?_)
          obtain ⟨p, hp⟩ : ∃ p, kp[j]? = some p := ⟨_, List.getElem?_eq_getElem (by have := HKL.out; omega)⟩
          obtain ⟨x, hx, hpb, hpf, hpt⟩ := HKB.out j p hp
          have HP := Lib.hid (peek_some w.heap.size wr w.heap.size v2 vs2 kp (HN2.out.grow HBJ.out) (by rw [HKL.out]; omega) j p hp (by rw [hpb]; simp))
          obtain ⟨f, t, b⟩ := p
          simp only at hpb hpf hpt
          subst hpb
          obtain ⟨xz, HXZ⟩ : ∃ xz : Int, Hid ((x.toNat : Int) = xz) := ⟨_, Lib.hid rfl⟩
          have HOL : Hid (wr.ownsRow w.heap.size 5 1 (.slice A7 L c7) L (bc lb)) := Lib.hid (own_below HO2.out HBJ.out (Nat.le_refl _))
          have HXB : Hid ((bc lb)[j]? = some (.int .u8 xz)) := Lib.hid (by rw [← HXZ.out]; simp [bc, Lib.byteCells, List.getElem?_map, hx])
          clear hp hx
          obtain ⟨g7, c7', e7, _, _, _, _, hgo7⟩ := own_head (Or.inl HOL.out) (by omega)
          injection e7 with e71 e72 e73
          subst e71 e73
          go_upto_region 23 with (go_at_call 16; refine HP.out.mono ?_; rintro e w3 ⟨A3, c3, rfl, ho3, hc3, hm3, hb3⟩; obtain ⟨q, cq, e3, _, _, _, _, hgo3⟩ := own_head (Or.inl ho3) (by simp); injection e3 with e31 e32 e33; subst e31 e33; have HO3 := Lib.hid hgo3; have HB3 := Lib.hid hb3; clear ho3 hc3 hb3 hgo3)
          have HW : Hid ((w3.alloc (.cells #[.int .i64 f, .int .i64 t, .slice (some ⟨q, 0, none⟩) 1 c3] 31)).rangeAt w3.heap.size 0 [.int .i64 f, .int .i64 t, .slice (some ⟨q, 0, none⟩) 1 c3] ∧ (w3.alloc (.cells #[.int .i64 f, .int .i64 t, .slice (some ⟨q, 0, none⟩) 1 c3] 31)).cell? ⟨q, 0, none⟩ = some (.int .u8 xz) ∧ (w3.alloc (.cells #[.int .i64 f, .int .i64 t, .slice (some ⟨q, 0, none⟩) 1 c3] 31)).cell? ⟨g7, j, none⟩ = some (.int .u8 xz) ∧ Below w2.heap.size w2 (w3.alloc (.cells #[.int .i64 f, .int .i64 t, .slice (some ⟨q, 0, none⟩) 1 c3] 31))) := Lib.hid
            ⟨range_new w3 [.int .i64 f, .int .i64 t, .slice (some ⟨q, 0, none⟩) 1 c3] _, (own_cell (HO3.out.kept (World.grownBy_alloc w3 _ none) (own_or _)) (j := 0) (by rw [← HXZ.out]; rfl)).1,
             (own_cell ((own_below hgo7 HB3.out (Nat.le_refl _)).kept (World.grownBy_alloc w3 _ none) (own_or _)) HXB.out).1, (HBJ.out.trans (HB3.out.mono HBJ.out.size)).alloc (by have := HBJ.out.size; have := HB3.out.size; omega) _⟩
          clear hgo7
          generalize (w3.alloc (.cells #[.int .i64 f, .int .i64 t, .slice (some ⟨q, 0, none⟩) 1 c3] 31)) = W4 at *
          generalize w3.heap.size = b12 at *
          have x0 : W4.cell? ⟨b12, 0, none⟩ = some (.int .i64 f) := HW.out.1 0 _ rfl
          have x1 : W4.cell? ⟨b12, 1, none⟩ = some (.int .i64 t) := HW.out.1 1 _ rfl
          have x2 : W4.cell? ⟨b12, 2, none⟩ = some (.slice (some ⟨q, 0, none⟩) 1 c3) := HW.out.1 2 _ rfl
          have xb : W4.cell? ⟨q, 0, none⟩ = some (.int .u8 xz) := HW.out.2.1
          have xl : W4.cell? ⟨g7, j, none⟩ = some (.int .u8 xz) := HW.out.2.2.1
          refine wp_region_quiet_lit (by kernel_rfl) (by kernel_rfl) ?_
          repeat (go_big_quiet_step (fail))
          refine wpQuiet_nil ?_
          rintro _ ⟨nq, rfl⟩
          go_wp2
          refine hide_out HQ0 ?_
          go_step
          go_roundw
          case rel => exact ⟨j + 1, by omega, by go_num, Lib.hid (below_drewN HW.out.2.2.2 _)⟩
          case measure => simp [intOf]; omega
        · obtain rfl : L = j := by omega
          have hLL : ¬ L < L := by omega
          go_wp2_with (go_at_call 8; refine (awake_any _).mono ?_; rintro e w' ⟨rfl, hb⟩)
          go_ret
          exact RetTrue.from (HB2.out.trans (HBJ.out.mono HB2.out.size)) ⟨rfl, hb⟩
end Go.Proofs.Ytlgkgmnnmlhaeaa
