/- The walk of one: a message is sent, a tick, or nothing. Its condition: the kind. -/
import Derived.Test.YtchhejheobceiaaSesQ0
namespace Go.Proofs.Ytchhejheobceiaa
open Go.RowKit
set_option linter.unusedVariables false

section
variable {base : Nat} {w : World} {T : Nat → Nat} {t t' a s r : Nat} {q : Sv} {x : Xs} {a' s' r' : Nat} {q' : Sv} {y : Xs} (D : Duo base w T t t' a s r q x x.ses a' s' r' q' y y.ses) (okx : x.ses.Ok) (oky : y.ses.Ok)
  (hxi : x.inn.length ≤ 500000) (hyi : y.inn.length ≤ 500000) (hxs : x.sent.length ≤ 500000) (hxg : x.got.length ≤ 500000)
  (sb : Bool) (kind : Int) (Am : Option Addr) (cm : Nat) (kz : Int) (yes : Bool) (m : List UInt8) (hm : TxAt base w (.slice Am m.length cm) m) (hml : m.length ≤ 100000) (hk5 : kind < 5) (hkz : -9223372036854775808 ≤ kz ∧ kz ≤ 9223372036854775807)
include D okx oky hxi hyi hxs hxg hm hml hk5 hkz
set_option maxRecDepth 100000 in
set_option maxHeartbeats 16000000 in
theorem one_k1 (hkinds : Hid (kind = 1 ∨ kind = 2 ∨ (kind ≠ 1 ∧ kind ≠ 2 ∧ kind ≠ 3 ∧ kind ≠ 4))) : Calls Try.prog 14 #[.pointer (some ⟨a, 0, none⟩), .pointer (some ⟨a', 0, none⟩), .agg #[.bool sb, .int .i64 kind, .slice Am m.length cm, .int .i64 kz, .bool yes]] w (RetOne base w t t' a s r a' s' r' x y kind m kz yes) := by
  obtain ⟨ml, HML⟩ : ∃ ml, Hid (m.length = ml) := ⟨_, Lib.hid rfl⟩
  have HALL := Lib.hid (And.intro hxi (And.intro hyi (And.intro hxs (And.intro hxg (And.intro hk5 (And.intro hml hkz))))))
  clear HALL
  have HOKX := Lib.hid okx
  have HOKY := Lib.hid oky
  have hwx := okx.wait
  obtain ⟨hz1, hz2⟩ := hkz
  rw [HML.out] at hml hm ⊢
  have HW1 : Hid (∃ T1, Duo base (w.alloc (.cells #[.bool sb, .int .i64 kind, .slice Am ml cm, .int .i64 kz, .bool yes] 42)) T1 t t' a s r q x x.ses a' s' r' q' y y.ses ∧ Fr base w (w.alloc (.cells #[.bool sb, .int .i64 kind, .slice Am ml cm, .int .i64 kz, .bool yes] 42)) T1 w.heap.size [.bool sb, .int .i64 kind, .slice Am ml cm, .int .i64 kz, .bool yes] (.slice Am ml cm) m) := Lib.hid (by
    have hb : Below w.heap.size w (w.alloc (.cells #[.bool sb, .int .i64 kind, .slice Am ml cm, .int .i64 kz, .bool yes] 42)) := (Below.refl _ _).alloc (Nat.le_refl _) _
    have hM : Moved base w (w.alloc (.cells #[.bool sb, .int .i64 kind, .slice Am ml cm, .int .i64 kz, .bool yes] 42)) T (fun _ => False) := .of_below hb
    exact ⟨_, D.grow hb 99, Nat.le_trans D.x.hb hM.size, hM.below D.x.hb, range_new w [.bool sb, .int .i64 kind, .slice Am ml cm, .int .i64 kz, .bool yes] _, by rw [alloc_size]; omega, retag_ge (Nat.le_refl _), hM.txt hm D.x.hb⟩)
  clear okx oky hm
  have HD := Lib.hid D
  clear D
  go_enter Try.func14, Try.ntmps14
  go_upto_region 2 with fail
  generalize (w.alloc (.cells #[.bool sb, .int .i64 kind, .slice Am ml cm, .int .i64 kz, .bool yes] 42)) = W1 at *
  obtain ⟨b, HBB⟩ : ∃ b, Hid (w.heap.size = b) := ⟨_, Lib.hid rfl⟩
  simp only [HBB.out] at HW1 ⊢
  clear HBB
  obtain ⟨T1, h1, h2⟩ := HW1.out
  have HD1 := Lib.hid h1
  have HF1 := Lib.hid h2
  clear h1 h2 HW1 HD
  have z1 : W1.cell? ⟨b, 1, none⟩ = some (.int .i64 kind) := HF1.out.range 1 _ rfl
  have z2 : W1.cell? ⟨b, 2, none⟩ = some (.slice Am ml cm) := HF1.out.range 2 _ rfl
  have z3 : W1.cell? ⟨b, 3, none⟩ = some (.int .i64 kz) := HF1.out.range 3 _ rfl
  have z4 : W1.cell? ⟨b, 4, none⟩ = some (.bool yes) := HF1.out.range 4 _ rfl
  obtain ⟨a0, a1, a3, a4, a5⟩ := HD1.out.x.cells_
  go_upto_block 0 with fail
  go_cut [7] from 8 (fun s7 wx => Hid (Mid base w t t' a s r a' s' r' x y q' kind m kz yes s7 wx))
  case first =>
    rcases hkinds.out with rfl | rfl | ⟨n1, n2, n3, n4⟩
    · skip
      -- [[A
      by_cases hbig : 65536 < ml ∨ x.ses.wait.length = 200
      · skip
        -- [[A1
        obtain ⟨us, hus⟩ := HD1.out.x.ses
        obtain ⟨us2, hus2⟩ := HD1.out.x.ref
        have HSN : Hid (∀ W, Below W1.heap.size W1 W → Calls Try.prog 8 #[.pointer (some ⟨s, 0, none⟩), .slice Am ml cm] W fun e w' => e = .returned (.tuple #[.slice none 0 0, .int .i64 2]) ∧ W = w') := Lib.hid fun W hb => send_no base W s q.vs us x.ses (hus.grow hb) HOKX.out Am ml cm (by omega) hbig
        have HRN : Hid (∀ W, Below W1.heap.size W1 W → Calls Try.prog 25 #[.pointer (some ⟨r, 0, none⟩), .slice Am ml cm] W fun e w' => e = .returned (.tuple #[.slice none 0 0, .int .i64 2]) ∧ W = w') := Lib.hid fun W hb => rsend_no base W r q.vr us2 x.ses (hus2.grow hb) Am ml cm (by omega) hbig
        clear hus hus2
        go_upto_region 4 with fail
        go_region_held3 (fun w' => w'.cell? ⟨a, 0, none⟩ = some (.pointer (some ⟨s, 0, none⟩)) ∧ w'.cell? ⟨b, 2, none⟩ = some (.slice Am ml cm)) (first | assumption | exact ⟨a0, z2⟩ | go_keep) (first | (go_simp; go_at_call 8; ((with_reducible refine (HSN.out W1.drew (Below.refl _ _).drew).mono ?_); rintro e w2 ⟨rfl, rfl⟩)))
        all_goals go_upto_region 5 with fail
        all_goals go_region_held3 (fun w' => w'.cell? ⟨a, 1, none⟩ = some (.pointer (some ⟨r, 0, none⟩)) ∧ w'.cell? ⟨b, 2, none⟩ = some (.slice Am ml cm)) (first | assumption | exact ⟨a1, z2⟩ | go_keep) (first | (go_simp; go_at_call 25; ((with_reducible refine (HRN.out W1.drew.drew (Below.refl _ _).drew.drew).mono ?_); rintro e w3 ⟨rfl, rfl⟩)))
        have HRW : Hid (∀ W, Calls Try.prog 16 #[.slice none 0 0, .slice none 0 0] W (YesDrew W)) := Lib.hid fun W => rows_eq none none 0 0 0 [] [] [] W (B1 := 0) (B2 := 0) Reads.none_ Reads.none_ ⟨rfl, fun i u m h => by simp at h⟩ ⟨rfl, fun i u m h => by simp at h⟩ (Nat.zero_le _)
        have HT : Hid (OneTo x y 1 m kz yes x { y with inn := y.inn ++ [] }) := Lib.hid (by rw [inn_nil]; exact .sendNo rfl)
        clear HSN HRN hbig
        go_wp2_with (first
          | (refine wpList_unguard rfl ?_)
          | (go_at_call 16; ((with_reducible refine (HRW.out _).mono ?_); rintro e w4 ⟨rfl, nq, rfl⟩)))
        go_meet
        exact Lib.hid ⟨T1, q, x, [], W1.heap.size, HT.out, HD1.out.same (below_drewN (Below.refl _ _) _), rows_nil _ _, (fun k h1 h2 => absurd h2 (Nat.not_lt.2 h1)), Nat.zero_le _, (HF1.out.same (below_drewN (Below.refl _ _) _)).below, HOKX.out⟩
        -- ]]A1
      · skip
        -- [[A2
        have hnb : ml ≤ 65536 ∧ x.ses.wait.length < 200 := by omega
        obtain ⟨hnb1, hnb2⟩ := hnb
        obtain ⟨P, HP⟩ : ∃ P, Hid (pktL (x.ses.push m) (x.ses.first + x.ses.wait.length) true m = P) := ⟨_, Lib.hid rfl⟩
        have hbd : Below W1.heap.size W1 W1.drew := (Below.refl _ _).drew
        have HD1d := Lib.hid (HD1.out.same hbd)
        have HF1d := Lib.hid (HF1.out.same hbd)
        have HSN : Hid (Calls Try.prog 8 #[.pointer (some ⟨s, 0, none⟩), .slice Am ml cm] W1.drew fun e w' => ∃ u, e = .returned (.tuple #[u, .int .i64 0]) ∧ RowsAt w' W1.heap.size u [P] ∧ SesNow base W1.drew s q.vs (x.ses.push m) w') := Lib.hid (by
          obtain ⟨us, hus⟩ := HD1d.out.x.ses
          have := send_yes base W1.drew s q.vs us x.ses hus HOKX.out Am ml cm m HF1d.out.hb (fun W hk => HF1d.out.txt.reads_keep hk HD1d.out.x.loose_ses HF1d.out.hb) hnb1 hnb2
          rw [HP.out] at this
          exact this)
        clear hbd hbig
        have hi50 := HD1.out.hi
        go_upto_region 4 with fail
        go_region_held3 (fun w' => w'.cell? ⟨a, 0, none⟩ = some (.pointer (some ⟨s, 0, none⟩)) ∧ w'.cell? ⟨b, 2, none⟩ = some (.slice Am ml cm)) (first | assumption | exact ⟨a0, z2⟩ | go_keep) (first | (go_simp; go_at_call 8; ((with_reducible refine HSN.out.mono ?_); rintro e w2 ⟨u2, rfl, hr2, hn2⟩; have HR2 := Lib.hid hr2; obtain ⟨A2, c2, hv⟩ := hr2.value; rw [show [P].length = 1 from rfl] at hv; subst hv; obtain ⟨⟨v2, hd2⟩, hm2⟩ := HD1d.out.ses hn2; have HD2 := Lib.hid hd2; have HF2 := Lib.hid (HF1d.out.step hm2 (fun h => by rcases h with h | h <;> omega) (t + 3)); have s2 : w2.cell? ⟨a, 0, none⟩ = some (.pointer (some ⟨s, 0, none⟩)) ∧ w2.cell? ⟨b, 2, none⟩ = some (.slice Am ml cm) := ⟨hd2.x.cells_.1, HF2.out.range 2 _ rfl⟩; clear hr2 hn2 hd2 hm2)))
        obtain ⟨_, d1, _⟩ := HD2.out.x.cells_
        have e2 : w2.cell? ⟨b, 2, none⟩ = some (.slice Am ml cm) := s2.2
        have hbd2 : Below w2.heap.size w2 w2.drew := (Below.refl _ _).drew
        have HD2d := Lib.hid (HD2.out.same hbd2)
        have HF2d := Lib.hid (HF2.out.same hbd2)
        have HRN : Hid (Calls Try.prog 25 #[.pointer (some ⟨r, 0, none⟩), .slice Am ml cm] w2.drew fun e w' => ∃ u, e = .returned (.tuple #[u, .int .i64 0]) ∧ RowsAt w' w2.heap.size u [P] ∧ RsNow base w2.drew r q.vr (x.ses.push m) w') := Lib.hid (by
          obtain ⟨us, hus⟩ := HD2d.out.x.ref
          have := rsend_yes base w2.drew r q.vr us x.ses hus HOKX.out Am ml cm m HF2d.out.hb (fun W hk => HF2d.out.txt.reads_keep hk HD2d.out.x.loose_ref HF2d.out.hb) hnb1 hnb2
          rw [HP.out] at this
          exact this)
        clear s2 hbd2 HSN
        go_upto_region 5 with fail
        go_region_held3 (fun w' => w'.cell? ⟨a, 1, none⟩ = some (.pointer (some ⟨r, 0, none⟩)) ∧ w'.cell? ⟨b, 2, none⟩ = some (.slice Am ml cm)) (first | assumption | exact ⟨d1, e2⟩ | go_keep) (first | (go_simp; go_at_call 25; ((with_reducible refine HRN.out.mono ?_); rintro e w3 ⟨u3, rfl, hr3, hn3⟩; have HR3 := Lib.hid hr3; obtain ⟨A3, c3, hv⟩ := hr3.value; rw [show [P].length = 1 from rfl] at hv; subst hv; obtain ⟨⟨v3, hd3⟩, hm3⟩ := HD2d.out.ref hn3; have HD3 := Lib.hid hd3; have HM3 := Lib.hid hm3; have HF3 := Lib.hid (HF2d.out.step hm3 (fun h => by rcases h with h | h <;> omega) (t + 4)); have s3 : w3.cell? ⟨a, 1, none⟩ = some (.pointer (some ⟨r, 0, none⟩)) ∧ w3.cell? ⟨b, 2, none⟩ = some (.slice Am ml cm) := ⟨hd3.x.cells_.2.1, HF3.out.range 2 _ rfl⟩; clear hr3 hn3 hd3 hm3)))
        have HU3 : Hid (RowsAt w3 W1.heap.size (.slice A2 1 c2) [P]) := Lib.hid (HM3.out.rows (HR2.out.grow (Below.refl _ _).drew) (fun k h1 h2 => by
          rw [show retag T1 W1.drew.heap.size (t + 3) k = t + 3 from retag_ge h1]
          intro h
          rcases h with h | h <;> omega))
        have hs12 : W1.heap.size ≤ w2.heap.size := by have := HF2.out.below.size; exact (HR2.out.value.elim fun _ _ => by
          obtain ⟨us, h1, _⟩ := HR2.out
          obtain ⟨g, off, c, e, h2, _⟩ := h1.some_ (by show 0 < 1; omega)
          have := (h1.lt g (by rw [e]; rfl)).2
          omega)
        have HRW : Hid (Calls Try.prog 16 #[.slice A2 1 c2, .slice A3 1 c3] w3 (YesDrew w3)) := Lib.hid (by
          obtain ⟨us1, k1, k2⟩ := HU3.out
          obtain ⟨us2, k3, k4⟩ := HR3.out
          exact rows_lines (ls := [P]) k1 k3 (.of_rows k2) (.of_rows k4) (by show 1 ≤ 1000000; omega))
        clear s3 HRN HD1d HF1d HD2d HF2d
        go_upto_region 9 with (first
          | (refine wpList_unguard rfl ?_)
          | (go_at_call 16; ((with_reducible refine HRW.out.mono ?_); rintro e w4 ⟨rfl, nq, rfl⟩)))
        have hb4 : Below w3.heap.size w3 (w3.drewN nq) := below_drewN (Below.refl _ _) nq
        have HD4 := Lib.hid (HD3.out.same hb4)
        have HF4 := Lib.hid (HF3.out.same hb4)
        have HU4 := Lib.hid (HU3.out.grow hb4)
        have HTG : Hid (∀ k, W1.heap.size ≤ k → retag (retag T1 W1.drew.heap.size (t + 3)) w2.drew.heap.size (t + 4) k = t + 3 ∨ retag (retag T1 W1.drew.heap.size (t + 3)) w2.drew.heap.size (t + 4) k = t + 4) := Lib.hid (fun k hk => by
          by_cases h : k < w2.drew.heap.size
          · left; rw [retag_lt h]; exact retag_ge hk
          · right; exact retag_ge (by omega))
        have hs14 : W1.heap.size ≤ (w3.drewN nq).heap.size := Nat.le_trans hs12 (HM3.out.size)
        clear hb4 HD3 HF3 HU3 HRW HM3 HR3 HR2 HD2 HF2 d1 e2 hs12
        generalize w3.drewN nq = W4 at *
        generalize retag (retag T1 W1.drew.heap.size (t + 3)) w2.drew.heap.size (t + 4) = T3 at *
        obtain ⟨us, hrow, htx⟩ := HD4.out.x.sent
        have hsl : x.sent.length ≤ 500000 := hxs
        obtain ⟨ns, HNS⟩ : ∃ ns, Hid (x.sent.length = ns) := ⟨_, Lib.hid rfl⟩
        have hrow' : Row W4 base 30 q.vt ns us := by rw [← HNS.out]; exact hrow
        obtain ⟨At, ct, hvt, _⟩ := hrow'.form
        have HROW := Lib.hid hrow'
        have HTX := Lib.hid htx
        have hns : ns ≤ 500000 := by rw [← HNS.out]; exact hsl
        obtain ⟨_, _, _, d4, _⟩ := HD4.out.x.cells_
        have g4 := HD4.out.x.free 4
        have d4' : W4.cell? ⟨a, 4, none⟩ = some q.vt := d4
        rw [hvt] at d4' HROW
        clear d4
        have e2 : W4.cell? ⟨b, 2, none⟩ = some (.slice Am ml cm) := HF4.out.range 2 _ rfl
        have ha4 : a < W4.heap.size := HD4.out.x.a_lt
        have hba4 : base ≤ W4.heap.size := HF4.out.hb
        have HNA : Hid (¬ (Value.slice At ns ct).ownBlock = some a) := Lib.hid (fun e => by have h1 := HD4.out.x.tvt a (by show q.vt.ownBlock = some a; rw [hvt]; exact e); have h2 := HD4.out.x.ta; omega)
        clear hrow htx hrow' hsl
        have HB5 : Hid (Below W4.heap.size W4 (W4.drew.alloc (.cells #[.slice Am ml cm] 30))) := Lib.hid ((Below.refl _ _).drew.alloc (Nat.le_refl _) _)
        have HRN5 := Lib.hid (reads_new1 W4.drew (.slice Am ml cm) 30)
        have HLS : Hid (Lines base W4 (.slice At ns ct) x.sent) := Lib.hid (by rw [← hvt]; exact HD4.out.x.sent)
        have HTV : Hid (∀ g, (Value.slice At ns ct).ownBlock = some g → T3 g = t + 6) := Lib.hid (fun g e => HD4.out.x.tvt g (by show q.vt.ownBlock = some g; rw [hvt]; exact e))
        have HMLE : Hid (TxAt base W4 (.slice Am ml cm) m) := Lib.hid HF4.out.txt
        have HFIN : Hid (∀ w6 A6 c6, Row w6 base 30 (.slice A6 (ns + 1) c6) (ns + 1) (us ++ [.slice Am ml cm]) → Kept (fun k => (Value.slice At ns ct).ownBlock = some k) W4 w6 → (∀ g, (Value.slice A6 (ns + 1) c6).ownBlock = some g → (Value.slice At ns ct).ownBlock = some g ∨ W4.heap.size ≤ g) →
            Mid base w t t' a s r a' s' r' x y q' 1 m kz yes (.slice A2 1 c2) (w6.setCell ⟨a, 4, none⟩ (.slice A6 (ns + 1) c6))) := Lib.hid (by
          intro w6 A6 c6 h1 h2 h3
          have hL : Loose base W4 (fun k => (Value.slice At ns ct).ownBlock = some k) := HD4.out.x.loose_row HLS.out
          have hlines : Lines base w6 (.slice A6 (ns + 1) c6) (x.sent ++ [m]) := ⟨us ++ [.slice Am ml cm], by rw [List.length_append, HNS.out]; exact h1, (HTX.out.keep h2 hL hba4).app ⟨rfl, fun i u n e1 e2 => by
            cases i with
            | zero => simp at e1 e2; subst e1 e2; exact HMLE.out.keep h2 hL hba4
            | succ i => simp at e1⟩⟩
          obtain ⟨hd, hm⟩ := HD4.out.sent h2 hL (fun g _ e => HTV.out g e) hlines (fun g hg => (h3 g hg).imp (HTV.out g) id)
          have htt := HD4.out.tt
          refine ⟨_, _, { x with ses := x.ses.push m, sent := x.sent ++ [m] }, [P], W1.heap.size, ?_, hd, hm.rows HU4.out (fun k k1 k2 h => ?_), fun k k1 k2 => ?_, by show 1 ≤ 300; omega, HF4.out.below.trans (hm.below hba4), push_ok HOKX.out (by rw [HML.out]; exact hnb1) hnb2⟩
          · rw [← HP.out]
            exact .sendYes rfl (by rw [HML.out]; exact hnb1) hnb2
          · rcases HTG.out k k1 with e | e <;> rcases h with h | h <;> omega
          · by_cases hk : k < W4.heap.size
            · rw [retag_lt hk]
              rcases HTG.out k k1 with e | e <;> rw [e] <;> omega
            · rw [retag_ge (by omega)]
              omega)
        go_region_law (refine step_app_rows _ rfl (.tmp 61) (.tmp 64) rfl base _ ns us rfl (HROW.out.grow HB5.out) _ _ 1 _ [.slice Am ml cm] rfl HRN5.out (by omega) (by intro u hu; simp at hu; subst hu; rfl) (by omega) (Nat.le_trans hba4 HB5.out.size) ?_; intro v6 w6 ho6 hk6 hg6; have HO6 := Lib.hid ho6; have hk6' : Kept (fun k => (Value.slice At ns ct).ownBlock = some k) (W4.drew.alloc (.cells #[.slice Am ml cm] 30)) w6 := hk6; have HK6 : Hid (Kept (fun k => (Value.slice At ns ct).ownBlock = some k) W4 w6) := Lib.hid ((Kept.of_below HB5.out : Kept (fun k => (Value.slice At ns ct).ownBlock = some k) W4 _).trans hk6' (fun _ _ e => e)); have HG6 : Hid (∀ g, v6.ownBlock = some g → (Value.slice At ns ct).ownBlock = some g ∨ W4.heap.size ≤ g) := Lib.hid (fun g hg => (hg6 g hg).imp (fun e => e) (fun e => Nat.le_trans HB5.out.size e)); obtain ⟨A6, c6, rfl, _⟩ := ho6.form; have y6 : w6.cell? ⟨a, 4, none⟩ = some (.slice At ns ct) := (HK6.out.cell (a := ⟨a, 4, none⟩) ha4 HNA.out).trans d4'; have y7 : w6.frozen? ⟨a, 4, none⟩ = false := (HK6.out.frozen (a := ⟨a, 4, none⟩) ha4 HNA.out).trans g4; clear ho6 hk6 hg6 hk6')
        all_goals go_wp2_with fail
        all_goals go_meet
        all_goals exact Lib.hid (HFIN.out _ _ _ HO6.out HK6.out HG6.out)
        -- ]]A2
      -- ]]A
    · skip
      -- [[B
      obtain ⟨us, hus⟩ := HD1.out.x.ses
      obtain ⟨us2, hus2⟩ := HD1.out.x.ref
      obtain ⟨tl, HTL⟩ : ∃ tl, Hid ((tickL x.ses).length = tl) := ⟨_, Lib.hid rfl⟩
      have htl : tl ≤ 200 := by rw [← HTL.out, tickL_len]; exact hwx
      have HTK := Lib.hid (tick_any base W1 s q.vs us x.ses hus HOKX.out)
      have HRT : Hid (∀ W, Below W1.heap.size W1 W → Calls Try.prog 26 #[.pointer (some ⟨r, 0, none⟩)] W fun e w' => ∃ u, e = .returned u ∧ RowsAt w' W.heap.size u (tickL x.ses) ∧ Below W.heap.size W w') := Lib.hid fun W hb => rtick_any base W r q.vr us2 x.ses (hus2.grow hb) HOKX.out
      have ha1 := HD1.out.x.a_lt
      clear hus hus2
      have HRW : Hid (∀ (W : World) (b1 b2 : Nat) (u1 u2 : Value), RowsAt W b1 u1 (tickL x.ses) → RowsAt W b2 u2 (tickL x.ses) → Calls Try.prog 16 #[u1, u2] W (YesDrew W)) := Lib.hid (by
        rintro W b1 b2 u1 u2 ⟨us1, k1, k2⟩ ⟨us2, k3, k4⟩
        exact rows_lines k1 k3 (.of_rows k2) (.of_rows k4) (by rw [HTL.out]; omega))
      go_wp2_with (first
        | (refine wpList_unguard rfl ?_)
        | (go_at_call 17; ((with_reducible refine HTK.out.mono ?_); rintro e w2 ⟨u2, rfl, hr2, hb2⟩; have HR2 := Lib.hid hr2; have HB2 := Lib.hid hb2; obtain ⟨A2, c2, hv⟩ := hr2.value; rw [HTL.out] at hv; subst hv; have b1 : w2.cell? ⟨a, 1, none⟩ = some (.pointer (some ⟨r, 0, none⟩)) := (hb2.cell (p := ⟨a, 1, none⟩) ha1).trans a1; clear hr2 hb2))
        | (go_at_call 26; ((with_reducible refine (HRT.out _ HB2.out).mono ?_); rintro e w3 ⟨u3, rfl, hr3, hb3⟩; have HR3 := Lib.hid hr3; have HB3 := Lib.hid hb3; obtain ⟨A3, c3, hv⟩ := hr3.value; rw [HTL.out] at hv; subst hv; clear hr3 hb3))
        | (go_at_call 16; ((with_reducible refine (HRW.out _ _ _ _ _ (HR2.out.grow HB3.out) HR3.out).mono ?_); rintro e w4 ⟨rfl, nq, rfl⟩)))
      go_meet
      have hb3 : Below W1.heap.size W1 (w3.drewN nq) := below_drewN (HB2.out.trans (HB3.out.mono HB2.out.size)) nq
      have htt := HD1.out.hi
      exact Lib.hid ⟨_, q, x, tickL x.ses, W1.heap.size, .tick rfl, HD1.out.grow hb3 99, (HR2.out.grow HB3.out).grow (below_drewN (Below.refl _ _) nq), (fun k k1 k2 => by rw [retag_ge k1]; omega), by rw [HTL.out]; omega, (HF1.out.same hb3).below, HOKX.out⟩
      -- ]]B
    · skip
      -- [[G
      have k1 : (kind == 1) = false := by simp; omega
      have k2 : (kind == 2) = false := by simp; omega
      have k3 : (kind == 3) = false := by simp; omega
      have k4 : (kind == 4) = false := by simp; omega
      have k5 : (kind == 5) = false := by simp; omega
      have k6 : (kind == 6) = false := by simp; omega
      have HT : Hid (OneTo x y kind m kz yes x { y with inn := y.inn ++ [] }) := Lib.hid (by rw [inn_nil]; exact .other hk5 n1 n2 n3 n4)
      clear n1 n2 n3 n4
      go_wp2_with fail
      go_meet
      exact Lib.hid ⟨T1, q, x, [], W1.heap.size, HT.out, HD1.out, rows_nil _ _, (fun k h1 h2 => by omega), Nat.zero_le _, HF1.out.below, HOKX.out⟩
      -- ]]G
  case rest =>
    -- [[R
    obtain ⟨T5, q5, x1, out, lo, h1, h2, h3, h4, h5, h6, h7⟩ := hcut.out
    have HT := Lib.hid h1
    have HD5 := Lib.hid h2
    have HU5 := Lib.hid h3
    have HTG := Lib.hid h4
    have HBW := Lib.hid h6
    have HOK1 := Lib.hid h7
    obtain ⟨ol, HOL⟩ : ∃ n, Hid (out.length = n) := ⟨_, Lib.hid rfl⟩
    rw [HOL.out] at h5
    obtain ⟨Au, cu, rfl⟩ := h3.value
    clear hcut h1 h2 h3 h4 h6 h7 HD1 HF1 z1 z2 z3 z4 a0 a1 a3 a4 a5
    obtain ⟨yn, HYN⟩ : ∃ n, Hid (y.inn.length = n) := ⟨_, Lib.hid rfl⟩
    have hyn : yn ≤ 500000 := by rw [← HYN.out]; exact hyi
    obtain ⟨usv, hrow, htx⟩ := HD5.out.y.inn
    have hrow' : Row wc base 30 q'.vi yn usv := by rw [← HYN.out]; exact hrow
    obtain ⟨Av, cv, hvi, _⟩ := hrow'.form
    have HROW := Lib.hid hrow'
    have HTXV := Lib.hid htx
    rw [hvi] at HROW
    obtain ⟨uo, huo, hoo⟩ := HU5.out
    rw [HOL.out] at huo
    simp only [HOL.out]
    obtain ⟨_, _, e, _, _, hrdo⟩ := huo.form
    injection e with e1 e2 e3
    subst e1 e3
    have HRDO := Lib.hid hrdo
    have HOO := Lib.hid hoo
    have HONE : Hid (∀ u ∈ uo, u.oneCell' = true) := Lib.hid (Row.one_ (n := 0) (w := wc) (B := 0) (v := .slice none 0 0) hoo)
    have d3 : wc.cell? ⟨a', 3, none⟩ = some (.slice Av yn cv) := by rw [← hvi]; exact HD5.out.y.cells_.2.2.1
    have e3 := HD5.out.y.free 3
    have ha5 : a' < wc.heap.size := HD5.out.y.a_lt
    have hb5 : base ≤ wc.heap.size := HD5.out.x.hb
    have HLS : Hid (Lines base wc (.slice Av yn cv) y.inn) := Lib.hid (by rw [← hvi]; exact HD5.out.y.inn)
    have HTV : Hid (∀ g, (Value.slice Av yn cv).ownBlock = some g → T5 g = t' + 5) := Lib.hid (fun g e => HD5.out.y.tvi g (by rw [hvi]; exact e))
    have HNA : Hid (¬ (Value.slice Av yn cv).ownBlock = some a') := Lib.hid (fun e => by have h1 := HTV.out a' e; have h2 := HD5.out.y.ta; omega)
    clear hrow htx hrow' huo hrdo hoo hvi
    have HFIN : Hid (∀ w10 A10 c10, Row w10 base 30 (.slice A10 (yn + ol) c10) (yn + ol) (usv ++ uo) → Kept (fun k => (Value.slice Av yn cv).ownBlock = some k) wc w10 → (∀ g, (Value.slice A10 (yn + ol) c10).ownBlock = some g → (Value.slice Av yn cv).ownBlock = some g ∨ wc.heap.size ≤ g) →
        (∃ T q1 q2, Duo base (w10.setCell ⟨a', 3, none⟩ (.slice A10 (yn + ol) c10)) T t t' a s r q1 x1 x1.ses a' s' r' q2 { y with inn := y.inn ++ out } y.ses) ∧ Below base w (w10.setCell ⟨a', 3, none⟩ (.slice A10 (yn + ol) c10))) := Lib.hid (by
      intro w10 A10 c10 h1 h2 h3
      have hL : Loose base wc (fun k => (Value.slice Av yn cv).ownBlock = some k) := HD5.out.y.loose_row HLS.out
      have hlines : Lines base w10 (.slice A10 (yn + ol) c10) (y.inn ++ out) := ⟨usv ++ uo, by rw [List.length_append, HYN.out, HOL.out]; exact h1, (HTXV.out.keep h2 hL hb5).app ((Txs.of_own HOO.out).keep h2 hL hb5)⟩
      obtain ⟨hd, hm⟩ := HD5.out.swap.inn h2 hL (fun g _ e => HTV.out g e) hlines (fun g hg => (h3 g hg).imp (HTV.out g) id)
      exact ⟨⟨_, _, _, hd.swap⟩, HBW.out.trans (hm.below hb5)⟩)
    go_upto_region 43 with (at_builtin; refine app_rowsL _ rfl (.tmp 206) (.tmp 207) rfl base _ yn usv rfl HROW.out _ wc.heap.size ol _ uo rfl HRDO.out HONE.out (by omega) hb5 ?_; intro v10 w10 ho10 hk10 hg10; have HO10 := Lib.hid ho10; have HK10 : Hid (Kept (fun k => (Value.slice Av yn cv).ownBlock = some k) wc w10) := Lib.hid hk10; have HG10 : Hid (∀ g, v10.ownBlock = some g → (Value.slice Av yn cv).ownBlock = some g ∨ wc.heap.size ≤ g) := Lib.hid hg10; obtain ⟨A10, c10, rfl, _⟩ := ho10.form; have y6 : w10.cell? ⟨a', 3, none⟩ = some (.slice Av yn cv) := (HK10.out.cell (a := ⟨a', 3, none⟩) ha5 HNA.out).trans d3; have y7 : w10.frozen? ⟨a', 3, none⟩ = false := (HK10.out.frozen (a := ⟨a', 3, none⟩) ha5 HNA.out).trans e3; clear ho10 hk10 hg10)
    obtain ⟨⟨T6, q1, q2, hd6⟩, hb6⟩ := HFIN.out _ _ _ HO10.out HK10.out HG10.out
    have HD6 := Lib.hid hd6
    have HB6 := Lib.hid hb6
    clear hd6 hb6 HFIN HO10 HK10 HG10 y6 y7 d3 e3 HNA HTV HLS HONE HOO HRDO HROW HTXV HU5 HTG HD5 ha5
    generalize (w10.setCell ⟨a', 3, none⟩ (.slice A10 (yn + ol) c10)) = W6 at *
    obtain ⟨b0, b1, _⟩ := HD6.out.x.cells_
    obtain ⟨us1, hus1⟩ := HD6.out.x.ses
    obtain ⟨us2, hus2⟩ := HD6.out.x.ref
    obtain ⟨wl, HWL⟩ : ∃ n, Hid (x1.ses.wait.length = n) := ⟨_, Lib.hid rfl⟩
    obtain ⟨pe, HPE⟩ : ∃ n, Hid (x1.ses.peer = n) := ⟨_, Lib.hid rfl⟩
    have HWT : Hid (∀ k, Calls Try.prog 11 #[.pointer (some ⟨s, 0, none⟩)] (W6.drewN k) fun e w' => e = .returned (.int .i64 wl) ∧ W6.drewN k = w') := Lib.hid fun k => by have := waiting_any (hus1.grow (below_drewN (Below.refl _ _) k)) HOK1.out; rw [HWL.out] at this; exact this
    have HPT : Hid (∀ k, Calls Try.prog 10 #[.pointer (some ⟨s, 0, none⟩)] (W6.drewN k) fun e w' => e = .returned (.int .i64 pe) ∧ W6.drewN k = w') := Lib.hid fun k => by have := peer_any (hus1.grow (below_drewN (Below.refl _ _) k)) HOK1.out; rw [HPE.out] at this; exact this
    obtain ⟨_, b4, _, b5, _⟩ := hus2.cells_
    rw [HPE.out] at b4
    obtain ⟨Ar, cr, hvr, _⟩ := hus2.row.form
    rw [hvr, HWL.out] at b5
    have hwl : wl ≤ 200 := by rw [← HWL.out]; exact HOK1.out.wait
    clear hus1 hus2 hvr
    refine wp_region_quiet_lit (by kernel_rfl) (by kernel_rfl) ?_
    repeat (go_big_quiet_step ((first | (go_at_call 11; first | exact quiet_left (HWT.out _) | exact quiet_add_left (HWT.out _)) | (go_at_call 10; first | exact quiet_left (HPT.out _) | exact quiet_add_left (HPT.out _)))))
    refine wpQuiet_nil ?_
    rintro _ ⟨nq, rfl⟩
    go_wp2
    go_ret
    refine ⟨by simp, HB6.out.trans (below_drewN (Below.refl _ _) nq), T6, q1, q2, x1, _, HT.out, HD6.out.same (below_drewN (Below.refl _ _) nq)⟩
    -- ]]R
end
end Go.Proofs.Ytchhejheobceiaa
