/- Plain laws for SessionLives; append of whatever length onto a row. No condition. -/
import Derived.Test.YtchhejheobceiaaSes9
namespace Go.Proofs.Ytchhejheobceiaa
open Go.RowKit
set_option linter.unusedVariables false

theorem recvL_eq {s : Se} {l m : List UInt8} {h : Hd} (hp : parseL l = some (h, m)) : recvL s l =
    if h.life < s.peer then (s, [], [], 0)
    else if h.peer ≠ 0 ∧ h.peer ≠ s.life then (s.meet h.life, [], s.meetOut h.life, 0)
    else if h.has = false then ((s.meet h.life).acked h, [], s.meetOut h.life, 0)
    else ((((s.meet h.life).acked h).take h), (if h.num = ((s.meet h.life).acked h).took + 1 then [m] else []), s.meetOut h.life ++ [pktL (((s.meet h.life).acked h).take h) 0 false []], 0) := by
  unfold recvL
  rw [hp]
theorem recvL_full {s s1 s2 s3 : Se} {l m : List UInt8} {h : Hd} (hp : parseL l = some (h, m)) (h1 : ¬ h.life < s.peer) (h2 : ¬ (h.peer ≠ 0 ∧ h.peer ≠ s.life)) (h3 : h.has = true) (hm : s.meet h.life = s1) (ha : s1.acked h = s2) (hn : h.num = s2.took + 1) (ht : s2.take h = s3) :
    recvL s l = (s3, [m], s.meetOut h.life ++ [pktL s3 0 false []], 0) := by
  rw [recvL_eq hp, if_neg h1, if_neg h2, if_neg (by rw [h3]; exact Bool.noConfusion), hm, ha, if_pos hn, ht]
theorem recvL_ack {s s1 s2 : Se} {l m : List UInt8} {h : Hd} (hp : parseL l = some (h, m)) (h1 : ¬ h.life < s.peer) (h2 : ¬ (h.peer ≠ 0 ∧ h.peer ≠ s.life)) (h3 : h.has = false) (hm : s.meet h.life = s1) (ha : s1.acked h = s2) :
    recvL s l = (s2, [], s.meetOut h.life, 0) := by
  rw [recvL_eq hp, if_neg h1, if_neg h2, if_pos h3, hm, ha]
/-- The messages of one byte each. -/
def byteMsgs (n : Nat) : List (List UInt8) := (List.range n).map fun i => [UInt8.ofNat i]
theorem byteMsgs_len (n : Nat) : (byteMsgs n).length = n := by simp [byteMsgs]
theorem byteMsgs_succ (n : Nat) : byteMsgs (n + 1) = byteMsgs n ++ [[UInt8.ofNat n]] := by simp [byteMsgs, List.range_succ]
theorem byteMsgs_get {n i : Nat} (h : i < n) : (byteMsgs n)[i]? = some [UInt8.ofNat i] := by simp [byteMsgs, h]
def aSe (n : Nat) : Se := ⟨1, 0, 0, 1, byteMsgs n⟩
theorem aSe_ok {n : Nat} (h : n ≤ 20) : (aSe n).Ok := ⟨⟨Nat.le_refl _, by show 1 ≤ 1099511627776; omega⟩, Nat.zero_le _, Nat.zero_le _, ⟨Nat.le_refl _, by show 1 ≤ 2000000000000; omega⟩, by show (byteMsgs n).length ≤ 200; rw [byteMsgs_len]; omega, fun m hm => by
  obtain ⟨i, _, rfl⟩ := List.mem_map.1 hm
  show 1 ≤ 65536
  omega⟩
theorem aSe_push (n : Nat) : (aSe n).push [UInt8.ofNat n] = aSe (n + 1) := by show (⟨1, 0, 0, 1, byteMsgs n ++ [[UInt8.ofNat n]]⟩ : Se) = ⟨1, 0, 0, 1, byteMsgs (n + 1)⟩; rw [byteMsgs_succ]
def youngM : List UInt8 := [121, 111, 117, 110, 103]
def oldM : List UInt8 := [111, 108, 100]
def cSe (young : Nat) : Se := ⟨young, 0, 0, 1, [youngM]⟩
/-- a behind the young one's packet. -/
def aMet (n young : Nat) : Se := ⟨1, young, 1, 1, byteMsgs n⟩
def outL (n young : Nat) : List (List UInt8) := tickL ⟨1, young, 0, 1, byteMsgs n⟩ ++ [pktL (aMet n young) 0 false []]
theorem lives1 {n young : Nat} (hy : 1 ≤ young) (hy2 : young ≤ 2000) : recvL (aSe n) (pktL (cSe young) 1 true youngM) = (aMet n young, [youngM], outL n young, 0) := by
  have h : parseL (pktL (cSe young) 1 true youngM) = some (⟨young, 0, 1, 0, true⟩, youngM) := parse_pkt (s := cSe young) ⟨hy, by show young ≤ farN; unfold farN; omega⟩ (Nat.zero_le _) (by unfold farN; omega) (Nat.zero_le _) (by simp) (by decide)
  have m1 : (aSe n).meet young = ⟨1, young, 0, 1, byteMsgs n⟩ := if_pos (by show 0 < young; omega)
  have m2 : (aSe n).meetOut young = tickL ⟨1, young, 0, 1, byteMsgs n⟩ := if_pos (by show 0 < young; omega)
  have := recvL_full (s := aSe n) (s3 := aMet n young) h (by show ¬ young < 0; omega) (by show ¬ (0 ≠ 0 ∧ _); exact fun hh => hh.1 rfl) rfl m1 (if_pos rfl) rfl (if_pos rfl)
  rw [this]
  show (aMet n young, [youngM], (aSe n).meetOut young ++ _, 0) = _
  rw [m2]
  rfl
theorem lives2 {n old young : Nat} (ho : 1 ≤ old) (hoy : old < young) (hy2 : young ≤ 2000) : recvL (aMet n young) (pktL ⟨old, 0, 0, 1, [oldM]⟩ 1 true oldM) = (aMet n young, [], [], 0) := by
  have h : parseL (pktL ⟨old, 0, 0, 1, [oldM]⟩ 1 true oldM) = some (⟨old, 0, 1, 0, true⟩, oldM) := parse_pkt (s := ⟨old, 0, 0, 1, [oldM]⟩) ⟨ho, by show old ≤ farN; unfold farN; omega⟩ (Nat.zero_le _) (by unfold farN; omega) (Nat.zero_le _) (by simp) (by decide)
  rw [recvL_eq h]
  exact if_pos hoy
/-- c behind so many of a's packets. -/
def cAt (young j : Nat) : Se := if j = 0 then cSe young else ⟨young, 1, j, 1, [youngM]⟩
theorem outL_len (n young : Nat) : (outL n young).length = n + 1 := by simp [outL, tickL_len, byteMsgs_len]
theorem outL_get {n young i : Nat} (h : i < n) : (outL n young)[i]? = some (pktL ⟨1, young, 0, 1, byteMsgs n⟩ (1 + i) true [UInt8.ofNat i]) := by
  unfold outL
  rw [List.getElem?_append_left (by rw [tickL_len]; show i < (byteMsgs n).length; rw [byteMsgs_len]; exact h)]
  unfold tickL
  rw [List.getElem?_map, List.getElem?_range (by show i < (byteMsgs n).length; rw [byteMsgs_len]; exact h), Option.map_some]
  simp [List.getD, byteMsgs_get h]
theorem outL_last (n young : Nat) : (outL n young)[n]? = some (pktL (aMet n young) 0 false []) := by
  unfold outL
  rw [List.getElem?_append_right (by rw [tickL_len]; show (byteMsgs n).length ≤ n; rw [byteMsgs_len]; exact Nat.le_refl _), tickL_len]
  show [_][n - (byteMsgs n).length]? = _
  rw [byteMsgs_len, Nat.sub_self]
  rfl
theorem cAt_ok {young j : Nat} (hy : 1 ≤ young) (hy2 : young ≤ 2000) (hj : j ≤ 20) : (cAt young j).Ok := by
  unfold cAt
  split
  · exact ⟨⟨hy, by show young ≤ 1099511627776; omega⟩, Nat.zero_le _, Nat.zero_le _, ⟨Nat.le_refl _, by show 1 ≤ 2000000000000; omega⟩, by show 1 ≤ 200; omega, fun m hm => by simp [cSe] at hm; subst hm; decide⟩
  · exact ⟨⟨hy, by show young ≤ 1099511627776; omega⟩, by show 1 ≤ 1099511627776; omega, by show j ≤ 2000000000000; omega, ⟨Nat.le_refl _, by show 1 ≤ 2000000000000; omega⟩, by show 1 ≤ 200; omega, fun m hm => by simp at hm; subst hm; decide⟩
theorem lives3 {n young i : Nat} (hy : 1 < young) (hy2 : young ≤ 2000) (hi : i < n) (hn : n ≤ 20) : (recvL (cAt young i) (pktL ⟨1, young, 0, 1, byteMsgs n⟩ (1 + i) true [UInt8.ofNat i])).1 = cAt young (i + 1) ∧ (recvL (cAt young i) (pktL ⟨1, young, 0, 1, byteMsgs n⟩ (1 + i) true [UInt8.ofNat i])).2.1 = [[UInt8.ofNat i]] ∧ (recvL (cAt young i) (pktL ⟨1, young, 0, 1, byteMsgs n⟩ (1 + i) true [UInt8.ofNat i])).2.2.2 = 0 := by
  have h : parseL (pktL ⟨1, young, 0, 1, byteMsgs n⟩ (1 + i) true [UInt8.ofNat i]) = some (⟨1, young, 1 + i, 0, true⟩, [UInt8.ofNat i]) := parse_pkt (s := ⟨1, young, 0, 1, byteMsgs n⟩) ⟨Nat.le_refl _, by show 1 ≤ farN; unfold farN; omega⟩ (by show young ≤ farN; unfold farN; omega) (by unfold farN; omega) (Nat.zero_le _) (by simp) (by simp)
  have hm : (cAt young i).meet 1 = ⟨young, 1, i, 1, [youngM]⟩ := by
    unfold cAt
    split
    · rename_i h0; subst h0; rfl
    · rfl
  have hp : ¬ (1 < (cAt young i).peer) := by
    unfold cAt
    split
    · show ¬ 1 < 0; omega
    · show ¬ 1 < 1; omega
  have hl : (cAt young i).life = young := by unfold cAt; split <;> rfl
  have hc : cAt young (i + 1) = ⟨young, 1, i + 1, 1, [youngM]⟩ := by unfold cAt; rw [if_neg (by omega)]
  have ha : (⟨young, 1, i, 1, [youngM]⟩ : Se).acked ⟨1, young, 1 + i, 0, true⟩ = ⟨young, 1, i, 1, [youngM]⟩ := by
    unfold Se.acked
    rw [if_neg (by show ¬ young = 0; omega)]
    rfl
  have ht : (⟨young, 1, i, 1, [youngM]⟩ : Se).take ⟨1, young, 1 + i, 0, true⟩ = cAt young (i + 1) := by
    rw [hc]
    exact if_pos (by show 1 + i = i + 1; omega)
  rw [recvL_full h hp (by rw [hl]; exact fun hh => hh.2 rfl) rfl hm ha (by show 1 + i = i + 1; omega) ht]
  exact ⟨rfl, rfl, rfl⟩
theorem lives4 {n young : Nat} (hy : 1 < young) (hy2 : young ≤ 2000) (hn : n ≤ 20) : (recvL (cAt young n) (pktL (aMet n young) 0 false [])).1.wait = [] ∧ (recvL (cAt young n) (pktL (aMet n young) 0 false [])).2.1 = [] ∧ (recvL (cAt young n) (pktL (aMet n young) 0 false [])).2.2.2 = 0 ∧ (recvL (cAt young n) (pktL (aMet n young) 0 false [])).1.Ok := by
  have h : parseL (pktL (aMet n young) 0 false []) = some (⟨1, young, 0, 1, false⟩, []) := parse_pkt (s := aMet n young) ⟨Nat.le_refl _, by show 1 ≤ farN; unfold farN; omega⟩ (by show young ≤ farN; unfold farN; omega) (Nat.zero_le _) (by show 1 ≤ farN; unfold farN; omega) (by simp) (by simp)
  have hm : (cAt young n).meet 1 = ⟨young, 1, n, 1, [youngM]⟩ := by
    unfold cAt
    split
    · rename_i h0; subst h0; rfl
    · rfl
  have hp : ¬ (1 < (cAt young n).peer) := by
    unfold cAt
    split
    · show ¬ 1 < 0; omega
    · show ¬ 1 < 1; omega
  have hl : (cAt young n).life = young := by unfold cAt; split <;> rfl
  have ha : (⟨young, 1, n, 1, [youngM]⟩ : Se).acked ⟨1, young, 0, 1, false⟩ = ⟨young, 1, n, 2, []⟩ := by
    unfold Se.acked
    rw [if_neg (by show ¬ young = 0; omega)]
    rfl
  rw [recvL_ack h hp (by rw [hl]; exact fun hh => hh.2 rfl) rfl hm ha]
  exact ⟨rfl, rfl, rfl, ⟨by show 1 ≤ young; omega, by show young ≤ 1099511627776; omega⟩, by show 1 ≤ 1099511627776; omega, by show n ≤ 2000000000000; omega, ⟨by show 1 ≤ 2; omega, by show 2 ≤ 2000000000000; omega⟩, Nat.zero_le _, fun m hm => by cases hm⟩

/-- append(v, x...), x empty: the row is as it was. -/
theorem run_append_row0 {P : Program} (w : World) (t ty : TypeId) (B : Nat) (e : TypeId) (i : TypeInfo) (z : Value) (bytes : Nat) (ht : P.underlying t = some (.slice e)) (hi : P.info? e = some i) (hz : i.zero = some z)
    (hsize : i.size = 1) (hby : i.bytes = bytes) (hzs : z.cells.size = 1) (v : Value) (n : Nat) (xs : List Value) (hrow : Row w B e v n xs) (A : Option Addr) (c : Nat) (hbase : B ≤ w.heap.size) :
    ∃ v' w', (Builtin.append_ #[t, t] ty #[v, .slice A 0 c]).run P w = .ok v' w' ∧ Row w' B e v' n xs ∧ Kept (fun k => v.ownBlock = some k) w w' := by
  have hrow' := hrow
  obtain ⟨hl, ⟨rfl, rfl⟩ | ⟨g, off, cap, cur, rfl, hB, hg, hnc, hmx, hs, hx⟩⟩ := hrow
  · have hxs : xs = [] := List.eq_nil_of_length_eq_zero hl
    subst hxs
    cases A with
    | none => exact ⟨_, w, by simp [Builtin.append_, run_underlying ht, sizeOf, typeInfo, hi, Builtin.lenOf, Builtin.firstCells], hrow', Kept.refl _ _⟩
    | some ad =>
      obtain ⟨v', w', hrun, h2, h3, _⟩ := run_append_own (P := P) w w.heap.size t ty e i z 1 bytes ht hi hz hsize hby hzs (by omega) (.slice none 0 0) 0 [] (World.ownsRow_nil _ _ _ _) ad 0 c [] (by simp) (by simp) (by simp) (by simp [maxLen]) (by simp) (Nat.le_refl _)
      exact ⟨v', w', hrun, (Row.of_own h2).more hbase, Kept.of_grown h3 (fun b e => by cases e)⟩
  · cases A with
    | none => exact ⟨_, w, by simp [Builtin.append_, run_underlying ht, sizeOf, typeInfo, hi, Builtin.lenOf, Builtin.firstCells, hnc, storeCells], hrow', Kept.refl _ _⟩
    | some ad =>
      have hrun := run_append_room_cells (P := P) w t ty e i ht hi g off n cap ad 0 c [] (by simp) (by simp) (by simp) (by omega) (by simp) (by simp)
      exact ⟨_, w, hrun, hrow', Kept.refl _ _⟩
theorem app_rows0 (w : World) {ops : Array Oper} {rest : List Oper} {o : Oper} {a : Act} {Q : Exit → Act → World → Prop} (hgd : o.guard = none) (s x : Operand)
    (ho : o.op = .call { callee := .builtin .append, args := #[s, x], argTypes := #[27, 27] })
    (B : Nat) (v : Value) (n : Nat) (xs : List Value) (hs : a.eval s = v) (hrow : Row w B 30 v n xs)
    (A : Option Addr) (c : Nat) (hx : a.eval x = .slice A 0 c) (hbase : B ≤ w.heap.size)
    (h : ∀ v' w', Row w' B 30 v' n xs → Kept (fun k => v.ownBlock = some k) w w' → wpList Try.prog ops Q rest (a.put o.dst v') w') : wpList Try.prog ops Q (o :: rest) a w := by
  obtain ⟨i0, hi, hz0, hz1, hz2⟩ := info_parts Try.infoBs
  obtain ⟨v', w', hrun, h2, h3⟩ := run_append_row0 (P := Try.prog) w 27 o.type B 30 i0 _ 24 Try.underlying27 hi hz0 hz1 hz2 rfl v n xs hrow A c hbase
  refine wpList_plain hgd fun K hK => ?_
  unfold Oper.wp execOp
  simp only [ho, resolve, invoke, builtin, Sem.run_bind, Sem.run_pure, Result.andThen_ok, List.map_toArray, List.map_cons, List.map_nil, hs, hx, hrun]
  exact hK _ _ (h v' w' h2 h3)
end Go.Proofs.Ytchhejheobceiaa
