/- Appends of whatever length onto rows; the reference session's Send. No condition. -/
import Derived.Test.YtchhejheobceiaaSesG
import Derived.Test.YtchhejheobceiaaSesC
namespace Go.Proofs.Ytchhejheobceiaa
open Go.RowKit
set_option linter.unusedVariables false

/-- append(v, x...) onto a row, x of whatever length. -/
theorem run_append_rowL {P : Program} (w : World) (t ty : TypeId) (B : Nat) (e : TypeId) (i : TypeInfo) (z : Value) (bytes : Nat) (ht : P.underlying t = some (.slice e)) (hi : P.info? e = some i) (hz : i.zero = some z)
    (hsize : i.size = 1) (hby : i.bytes = bytes) (hzs : z.cells.size = 1)
    (v : Value) (n : Nat) (xs : List Value) (hrow : Row w B e v n xs)
    (A : Option Addr) (B2 m c : Nat) (news : List Value) (hr : Reads w B2 1 A m news) (h1 : ∀ u ∈ news, u.oneCell' = true)
    (h63 : n + m ≤ maxLen) (hbytes : (n + m) * bytes ≤ 140737488355328) (hbase : B ≤ w.heap.size) :
    ∃ v' w', (Builtin.append_ #[t, t] ty #[v, .slice A m c]).run P w = .ok v' w' ∧ Row w' B e v' (n + m) (xs ++ news) ∧ Kept (fun k => v.ownBlock = some k) w w' ∧ ∀ g, v'.ownBlock = some g → v.ownBlock = some g ∨ w.heap.size ≤ g := by
  rcases Nat.eq_zero_or_pos m with h0 | h0
  · subst h0
    have hnn : news = [] := List.eq_nil_of_length_eq_zero (by have := hr.1; omega)
    subst hnn
    rw [List.append_nil]
    show ∃ v' w', _ ∧ Row w' B e v' n xs ∧ _
    have hrow' := hrow
    obtain ⟨hl, ⟨rfl, rfl⟩ | ⟨g, off, cap, cur, rfl, hB, hg, hnc, hmx, hs, hx⟩⟩ := hrow
    · have hxs : xs = [] := List.eq_nil_of_length_eq_zero hl
      subst hxs
      cases A with
      | none => exact ⟨_, w, by simp [Builtin.append_, run_underlying ht, sizeOf, typeInfo, hi, Builtin.lenOf, Builtin.firstCells], hrow', Kept.refl _ _, fun g hg => .inl hg⟩
      | some ad =>
        obtain ⟨v', w', hrun, h2, h3, _⟩ := run_append_own (P := P) w w.heap.size t ty e i z 1 bytes ht hi hz hsize hby hzs (by omega) (.slice none 0 0) 0 [] (World.ownsRow_nil _ _ _ _) ad 0 c [] (by simp) (by simp) (by simp) (by simp [maxLen]) (by simp) (Nat.le_refl _)
        exact ⟨v', w', hrun, (Row.of_own h2).more hbase, Kept.of_grown h3 (fun b e => by cases e), fun g hg => .inr (h2.lt g hg).1⟩
    · cases A with
      | none => exact ⟨_, w, by simp [Builtin.append_, run_underlying ht, sizeOf, typeInfo, hi, Builtin.lenOf, Builtin.firstCells, hnc, storeCells], hrow', Kept.refl _ _, fun g hg => .inl hg⟩
      | some ad =>
        have hrun := run_append_room_cells (P := P) w t ty e i ht hi g off n cap ad 0 c [] (by simp) (by simp) (by simp) (by omega) (by simp) (by simp)
        exact ⟨_, w, hrun, hrow', Kept.refl _ _, fun g hg => .inl hg⟩
  · obtain ⟨ad, rfl, _⟩ := hr.2 h0
    exact run_append_row w t ty B e i z bytes ht hi hz hsize hby hzs v n xs hrow ad B2 m c news hr h0 h1 h63 hbytes hbase
theorem app_rowsL (w : World) {ops : Array Oper} {rest : List Oper} {o : Oper} {a : Act} {Q : Exit → Act → World → Prop} (hgd : o.guard = none) (s x : Operand)
    (ho : o.op = .call { callee := .builtin .append, args := #[s, x], argTypes := #[27, 27] })
    (B : Nat) (v : Value) (n : Nat) (xs : List Value) (hs : a.eval s = v) (hrow : Row w B 30 v n xs)
    (A : Option Addr) (B2 m c : Nat) (news : List Value) (hx : a.eval x = .slice A m c) (hr : Reads w B2 1 A m news) (h1 : ∀ u ∈ news, u.oneCell' = true)
    (hn : n + m ≤ 1000000) (hbase : B ≤ w.heap.size)
    (h : ∀ v' w', Row w' B 30 v' (n + m) (xs ++ news) → Kept (fun k => v.ownBlock = some k) w w' → (∀ g, v'.ownBlock = some g → v.ownBlock = some g ∨ w.heap.size ≤ g) → wpList Try.prog ops Q rest (a.put o.dst v') w') : wpList Try.prog ops Q (o :: rest) a w := by
  obtain ⟨i0, hi, hz0, hz1, hz2⟩ := info_parts Try.infoBs
  obtain ⟨v', w', hrun, h2, h3, h4⟩ := run_append_rowL (P := Try.prog) w 27 o.type B 30 i0 _ 24 Try.underlying27 hi hz0 hz1 hz2 rfl v n xs hrow A B2 m c news hr h1 (by simp only [maxLen]; omega) (by omega) hbase
  refine wpList_plain hgd fun K hK => ?_
  unfold Oper.wp execOp
  simp only [ho, resolve, invoke, builtin, Sem.run_bind, Sem.run_pure, Result.andThen_ok, List.map_toArray, List.map_cons, List.map_nil, hs, hx, hrun]
  exact hK _ _ (h v' w' h2 h3 h4)
/-- .. at bytes. -/
theorem app_bytesL (w : World) {ops : Array Oper} {rest : List Oper} {o : Oper} {a : Act} {Q : Exit → Act → World → Prop} (hgd : o.guard = none) (s x : Operand)
    (ho : o.op = .call { callee := .builtin .append, args := #[s, x], argTypes := #[30, 30] })
    (B : Nat) (v : Value) (n : Nat) (xs : List Value) (hs : a.eval s = v) (hrow : Row w B 5 v n xs)
    (A : Option Addr) (B2 m c : Nat) (news : List Value) (hx : a.eval x = .slice A m c) (hr : Reads w B2 1 A m news) (h1 : ∀ u ∈ news, u.oneCell' = true)
    (hn : n + m ≤ 1000000) (hbase : B ≤ w.heap.size)
    (h : ∀ v' w', Row w' B 5 v' (n + m) (xs ++ news) → Kept (fun k => v.ownBlock = some k) w w' → (∀ g, v'.ownBlock = some g → v.ownBlock = some g ∨ w.heap.size ≤ g) → wpList Try.prog ops Q rest (a.put o.dst v') w') : wpList Try.prog ops Q (o :: rest) a w := by
  obtain ⟨i0, hi, hz0, hz1, hz2⟩ := info_parts Try.infoByte
  obtain ⟨v', w', hrun, h2, h3, h4⟩ := run_append_rowL (P := Try.prog) w 30 o.type B 5 i0 _ 1 Try.underlying30 hi hz0 hz1 hz2 rfl v n xs hrow A B2 m c news hr h1 (by simp only [maxLen]; omega) (by omega) hbase
  refine wpList_plain hgd fun K hK => ?_
  unfold Oper.wp execOp
  simp only [ho, resolve, invoke, builtin, Sem.run_bind, Sem.run_pure, Result.andThen_ok, List.map_toArray, List.map_cons, List.map_nil, hs, hx, hrun]
  exact hK _ _ (h v' w' h2 h3 h4)
theorem own_le {g o n c k b : Nat} (h : (Value.slice (some ⟨g, o, none⟩) n c).ownBlock = some k) (hb : b ≤ g) : b ≤ k := by
  have : some g = some k := h
  injection this with this
  omega
theorem row_made0 (w : World) (e : TypeId) (B : Nat) (hB : B ≤ w.heap.size) : Row (w.alloc (.cells #[] e)) B e (.slice (some ⟨w.heap.size, 0, none⟩) 0 0) 0 [] :=
  ⟨rfl, .inr ⟨w.heap.size, 0, 0, #[], rfl, hB, heap_alloc_new w _, Nat.le_refl _, by simp [maxLen], Nat.le_refl _, fun j u hu => by simp at hu⟩⟩
theorem Row.one_ {w : World} {B n : Nat} {v : Value} {vs : List Value} {ms : List (List UInt8)} {b : Nat} (h : OwnBs w b vs ms) : ∀ u ∈ vs, u.oneCell' = true := fun u hu => by
  obtain ⟨i, hi⟩ := List.getElem?_of_mem hu
  have hlt : i < ms.length := by rw [← h.len]; exact (List.getElem?_eq_some_iff.1 hi).1
  obtain ⟨A, c, rfl, _⟩ := (h.at_ i u _ hi (List.getElem?_eq_getElem hlt)).value
  rfl
section
variable (B : Nat) (w : World) (a : Nat) (v : Value) (vs : List Value) (s : Se) (h : RsAt B w a v vs s) (hok : s.Ok) (A : Option Addr) (n c : Nat) (m : List UInt8)
include h hok
omit hok in
set_option maxRecDepth 100000 in
set_option maxHeartbeats 4000000 in
theorem rsend_no (hn : n ≤ 9223372036854775807) (hbig : 65536 < n ∨ s.wait.length = 200) : Calls Try.prog 25 #[.pointer (some ⟨a, 0, none⟩), .slice A n c] w fun e w' => e = .returned (.tuple #[.slice none 0 0, .int .i64 2]) ∧ w = w' := by
  obtain ⟨_, _, _, c3, _⟩ := h.cells_
  obtain ⟨Av, cv, hv, _⟩ := h.row.form
  subst hv
  obtain ⟨N, hN⟩ : ∃ N, s.wait.length = N := ⟨_, rfl⟩
  rw [hN] at c3 hbig
  have hways : (65536 : Int) < (n : Int) ∨ (decide ((65536 : Int) < (n : Int)) = false ∧ (200 : Int) ≤ (N : Int)) := by
    by_cases h1 : 65536 < n
    · left; omega
    · right; exact ⟨by simp; omega, by omega⟩
  clear h hbig hN
  rcases hways with e1 | ⟨e1, e2⟩
  all_goals
    go_enter Try.func25, Try.ntmps25
    go_wp2_with (first
      | (refine wpList_unguard rfl ?_))
    go_ret2
    exact ⟨rfl, rfl⟩
set_option maxRecDepth 100000 in
set_option maxHeartbeats 8000000 in
theorem rsend_yes (hB : B ≤ w.heap.size) (hrk : ∀ W, Kept (foot a v) w W → Reads W w.heap.size 1 A n (bc m)) (hn : n ≤ 65536) (hw : s.wait.length < 200) :
    Calls Try.prog 25 #[.pointer (some ⟨a, 0, none⟩), .slice A n c] w fun e w' => ∃ u, e = .returned (.tuple #[u, .int .i64 0]) ∧ RowsAt w' w.heap.size u [pktL (s.push m) (s.first + s.wait.length) true m] ∧ RsNow B w a v (s.push m) w' := by
  have HS := Lib.hid h
  have HOK := Lib.hid hok
  obtain ⟨c0, c1, c2, c3, c4⟩ := h.cells_
  have hal := h.lt
  have f3 := h.free 3
  obtain ⟨Av, cv, rfl, _, _, hrd⟩ := h.row.form
  have HR := Lib.hid hrk
  have HRD := Lib.hid hrd
  have e1 : decide ((65536 : Int) < (n : Int)) = false := by simp; omega
  have HML : Hid (m.length = n) := Lib.hid (by have := (hrk w (Kept.refl _ _)).1; rw [bc_length] at this; omega)
  obtain ⟨N, HN⟩ : ∃ N, Hid (s.wait.length = N) := ⟨_, Lib.hid rfl⟩
  rw [HN.out] at c3 hw HR HRD
  have hfi := hok.first
  obtain ⟨fi, HFI⟩ : ∃ fi, Hid (s.first = fi) := ⟨_, Lib.hid rfl⟩
  rw [HFI.out] at c2 hfi
  have e2 : decide ((200 : Int) ≤ (N : Int)) = false := by simp; omega
  have HO1 : Hid (∀ u ∈ vs, u.oneCell' = true) := Lib.hid (Row.one_ (n := 0) (w := w) (B := 0) (v := .slice none 0 0) h.msgs)
  have HKB : Hid (∀ W, Below w.heap.size w W → Reads W w.heap.size 1 A n (bc m)) := Lib.hid fun W hb => by have := HR.out W (Kept.of_below hb); exact this
  clear h hok hrk hrd c0 c1 c4
  go_enter Try.func25, Try.ntmps25
  go_upto_region 3 with (first
    | (refine wpList_unguard rfl ?_))
  go_cut [] from 17 (fun wx => ∃ (v' : Value) (vs' : List Value), Hid (RsAt B wx a v' vs' (s.push m)) ∧ Hid (Kept (foot a (.slice Av N cv)) w wx) ∧ Hid (∀ g, v'.ownBlock = some g → (Value.slice Av N cv).ownBlock = some g ∨ w.heap.size ≤ g))
  case first =>
    have HFIN : Hid (∀ W4 v3 v4, OwnB W4 w.heap.size v3 m → Below w.heap.size w W4 → Row W4 w.heap.size 30 v4 (N + 1) (vs ++ [v3]) →
        RsAt B (W4.setCell ⟨a, 3, none⟩ v4) a v4 (vs ++ [v3]) (s.push m) ∧ Kept (foot a (.slice Av N cv)) w (W4.setCell ⟨a, 3, none⟩ v4) ∧ ∀ g, v4.ownBlock = some g → (Value.slice Av N cv).ownBlock = some g ∨ w.heap.size ≤ g) := Lib.hid (by
      intro W4 v3 v4 g1 g2 g3
      have cellA : W4.heap[a]? = some (.cells #[.int .i64 s.life, .int .i64 s.peer, .int .i64 s.first, .slice Av N cv, .int .i64 s.took] 63 (0, 0)) := by
        rw [g2.block a hal]
        have := HS.out.cell
        rwa [HN.out] at this
      have KS : Kept (fun k => k = a) W4 (W4.setCell ⟨a, 3, none⟩ v4) := (Kept.refl (fun k => k = a) W4).setCell (a := ⟨a, 3, none⟩) (fun _ => rfl) _
      refine ⟨⟨HS.out.lo, heap_setCell_at cellA 3 v4, ?_, ?_⟩, (Kept.of_below g2 : Kept (foot a (.slice Av N cv)) w W4).trans KS (fun b _ e => .inl e), fun g hg => .inr (g3.lt g hg).1⟩
      · have : (s.push m).wait.length = N + 1 := by simp [Se.push, HN.out]
        rw [this]
        exact (g3.more hB).setCell_other (row_apart_blk g3 cellA (by decide)) _
      · refine OwnBs.keep (OwnBs.snoc (HS.out.msgs.grow g2) (OwnB.more g1 (Nat.zero_le _))) KS (fun g cc hg e => ?_)
        rw [e, cellA] at hg; injection hg with hg; injection hg with _ hg; cases hg)
    go_wp2_with (first
      | (at_builtin; refine app_rowsL _ rfl (.tmp 18) (.tmp 22) rfl w.heap.size _ 0 [] rfl (row_made0 _ _ _ (Nat.le_refl _)) Av w.heap.size N cv vs rfl (HRD.out.alloc (Nat.le_refl _) _) HO1.out (by omega) (by rw [alloc_size]; omega) ?_; intro v2 w2 ho2 hk2 hg2; rw [Nat.zero_add, List.nil_append] at ho2; have HO2 := Lib.hid ho2; have HB2 : Hid (Below w.heap.size w w2) := Lib.hid (((Below.refl w.heap.size w).alloc (Nat.le_refl _) _).trans (hk2.below (by rw [alloc_size]; omega) (fun k hk => own_le hk (by omega)))); have z2 := HB2.out.size; obtain ⟨A2, c2', rfl, _⟩ := ho2.form; clear ho2 hk2 hg2)
      | (at_builtin; refine app_bytesL _ rfl (.tmp 24) (.tmp 25) rfl w.heap.size _ 0 [] rfl (row_made0 _ _ _ z2) A w.heap.size n c (bc m) rfl (HKB.out _ (HB2.out.alloc z2 _)) (bc_one _) (by omega) (by rw [alloc_size]; omega) ?_; intro v3 w3 ho3 hk3 hg3; rw [Nat.zero_add, List.nil_append] at ho3; have HO3 := Lib.hid ho3; have HB3 : Hid (Below w2.heap.size w2 w3) := Lib.hid (((Below.refl w2.heap.size w2).alloc (Nat.le_refl _) _).trans (hk3.below (by rw [alloc_size]; omega) (fun k hk => own_le hk (by omega)))); have z3 := HB3.out.size; obtain ⟨A3, c3', rfl, _⟩ := ho3.form; clear ho3 hk3 hg3)
      | (at_builtin; refine app_rowsL _ rfl (.tmp 23) (.tmp 27) rfl w.heap.size _ N vs rfl ((HO2.out.grow HB3.out).grow ((Below.refl _ _).alloc (Nat.le_refl _) _)) _ _ 1 _ [.slice A3 n c3'] rfl (by have := reads_new1 w3 (.slice A3 n c3') 30; exact this) (by intro u hu; simp at hu; subst hu; rfl) (by omega) (by rw [alloc_size]; omega) ?_; intro v4 w4 ho4 hk4 hg4; have HO4 := Lib.hid ho4; have HK4 := Lib.hid hk4; obtain ⟨A4, c4', rfl, _⟩ := ho4.form; have HB4 : Hid (Below w.heap.size w w4) := Lib.hid ((HB2.out.trans ((HB3.out.alloc z3 _).mono z2)).trans (hk4.below (by rw [alloc_size]; omega) (fun k hk => (HO2.out.lt k hk).1))); have y4 : w4.cell? ⟨a, 3, none⟩ = some (.slice Av N cv) := (HB4.out.cell (p := ⟨a, 3, none⟩) hal).trans c3; have z4 : w4.frozen? ⟨a, 3, none⟩ = false := (HB4.out.frozen (p := ⟨a, 3, none⟩) hal).trans f3; clear ho4 hk4 hg4))
    go_meet
    have ho3 : OwnB w4 w.heap.size (.slice A3 n c3') m := by
      have h3 := HO3.out.grow ((Below.refl w3.heap.size w3).alloc (Nat.le_refl _) (.cells #[.slice A3 n c3'] 30))
      show Row w4 w.heap.size 5 (.slice A3 n c3') m.length (bc m)
      rw [HML.out]
      refine Row.keep (S := fun k => (Value.slice A2 N c2').ownBlock = some k) h3 HK4.out (fun g hg hs => ?_)
      exact row_apart_blk ((HO2.out.grow HB3.out).grow ((Below.refl _ _).alloc (Nat.le_refl _) _)) (h3.block hg).choose_spec (by decide) hs
    obtain ⟨P1, P2, P3⟩ := HFIN.out _ _ _ ho3 HB4.out HO4.out
    exact ⟨_, _, Lib.hid P1, Lib.hid P2, Lib.hid P3⟩
  case rest =>
    obtain ⟨v', vs', HS', HK', HG'⟩ := hcut
    have HPL : Hid ((s.push m).wait.length = N + 1) := Lib.hid (by simp [Se.push, HN.out])
    have hwl : (s.push m).first = fi := HFI.out
    have hf1 : 1 ≤ fi := by rw [← HFI.out]; exact HOK.out.first.1
    have hf2 : fi ≤ 2000000000000 := by rw [← HFI.out]; exact HOK.out.first.2
    obtain ⟨_, _, d2, d3, _⟩ := HS'.out.cells_
    obtain ⟨A', c', hv', _⟩ := HS'.out.row.form
    rw [HPL.out] at hv'
    subst hv'
    rw [hwl] at d2
    have HOK' : Hid (s.push m).Ok := Lib.hid ⟨HOK.out.life, HOK.out.peer, HOK.out.took, HOK.out.first, by rw [HPL.out]; omega, fun x hx => by
      rcases List.mem_append.1 hx with hx | hx
      · exact HOK.out.msg x hx
      · simp at hx; subst hx; rw [HML.out]; exact hn⟩
    have hsz := HK'.out.size
    have HPK : Hid (∀ W z, Below wc.heap.size wc W → z = ((fi + N : Nat) : Int) → Calls Try.prog 34 #[.pointer (some ⟨a, 0, none⟩), .int .i64 z, .slice A n c, .bool true] W fun e w' => ∃ u, e = .returned u ∧ OwnB w' W.heap.size u (pktL (s.push m) (fi + N) true m) ∧ Below W.heap.size W w') := Lib.hid fun W z hb hz =>
      rpacket_z W a (s.push m) (HS'.out.grow hb) HOK'.out z (fi + N) hz (by omega) true A n c m (((HR.out wc HK'.out).more hsz |>.below hb).more hb.size) hn (by simp)
    have HFE := Lib.hid (show s.first + s.wait.length = fi + N by rw [HFI.out, HN.out])
    have w1 : IntKind.i64.wrap ((fi : Int) + ((N : Int) + 1)) = (fi : Int) + ((N : Int) + 1) := IntWalk.i64_in _ (by omega)
    have w2 : IntKind.i64.wrap ((fi : Int) + ((N : Int) + 1) - 1) = (fi : Int) + ((N : Int) + 1) - 1 := IntWalk.i64_in _ (by omega)
    go_upto_region 4 with fail
    go_region_law (go_simp; go_at_call 34; ((with_reducible refine (HPK.out _ _ (Below.refl _ _).drew (by omega)).mono ?_); rintro e w3 ⟨u3, rfl, ho3, hb3⟩; have HO3 := Lib.hid ho3; obtain ⟨Au, cu, rfl, _⟩ := ho3.value; have HB3 := Lib.hid hb3; clear ho3 hb3))
    all_goals go_wp2
    all_goals go_ret2
    all_goals
      have hb4 : Below wc.heap.size wc (w3.alloc (.cells #[.slice Au (pktL (s.push m) (fi + N) true m).length cu] 30)) := ((Below.refl wc.heap.size wc).drew.trans HB3.out).alloc HB3.out.size _
      have hs3 : w.heap.size ≤ w3.heap.size := Nat.le_trans hsz HB3.out.size
      have ho3 : OwnB w3 w.heap.size (.slice Au (pktL (s.push m) (fi + N) true m).length cu) (pktL (s.push m) (fi + N) true m) := OwnB.more HO3.out hsz
      rw [HFE.out, HN.out]
      exact ⟨_, rfl, rows_made1 hs3 ho3, _, _, HS'.out.grow hb4, HK'.out.trans (Kept.of_below hb4 : Kept (fun _ => False) _ _) (fun _ _ e => e.elim), HG'.out⟩
end
end Go.Proofs.Ytchhejheobceiaa
