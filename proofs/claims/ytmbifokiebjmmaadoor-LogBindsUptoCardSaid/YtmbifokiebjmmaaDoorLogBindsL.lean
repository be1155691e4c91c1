/- signetlaw36.LogBinds by its contract. -/
import Derived.Test.YtmbifokiebjmmaaDoorLogV
import Derived.Test.YtmbifokiebjmmaaDoorTotN
set_option linter.unusedVariables false
set_option linter.unusedSimpArgs false
namespace Go.Proofs.YtmbifokiebjmmaaDoor
open Go.RowKit Go.Sg
set_option maxHeartbeats 16000000 in
set_option maxRecDepth 20000 in
theorem LogBinds_c (root one two : List Int) (n i : Int) (A B : Option Addr) (ca cb : Nat) (p q : List (List Int)) (w : World) (ur : U8 root) (u1 : U8 one) (u2 : U8 two) (bn : -9223372036854775808 ≤ n ∧ n ≤ 9223372036854775807) (bi : -9223372036854775808 ≤ i ∧ i ≤ 9223372036854775807)
    (sp : Ss w A ca p) (sq : Ss w B cb q) (hz : root.length + one.length + two.length + (tot p + p.length) + (tot q + q.length) ≤ 1048576) (ht : ShaTabs w) (hr : RefTabs w) :
    Calls Tryd.prog 5 #[str root, .int .i64 n, .int .i64 i, str one, .slice A p.length ca, str two, .slice B q.length cb] w (TruePost w) := by
  have tp : ∀ s ∈ p, s.length ≤ 1048576 := fun s hs => by have := tot_le s hs; omega
  have tq : ∀ s ∈ q, s.length ≤ 1048576 := fun s hs => by have := tot_le s hs; omega
  obtain ⟨w1, c1, hr1, s1, hb1⟩ := run_bytes_of (P := Tryd.prog) w 9 25 5 Tryd.underlying9 Tryd.underlying25 Tryd.underlying5 ur (by omega)
  obtain ⟨w2, c2, hr2, s2, hb2⟩ := run_bytes_of (P := Tryd.prog) w1 9 25 5 Tryd.underlying9 Tryd.underlying25 Tryd.underlying5 u1 (by omega)
  have hB2 := hb1.trans (hb2.mono hb1.size)
  have cl1 := lists_c A ca p w2 (sp.below hB2) (fun s hs => by have := tp s hs; omega) (by omega)
  unfold ListsPost at cl1
  have chk : ∀ (W : World) (a a' L : Option Addr) (c c' cL : Nat) (leaf : List Int) (G : Nat → Nat) (r : List (List Int)) (bb : Nat), Sl .u8 W a c root → Sl .u8 W a' c' leaf → U8 leaf → MkW bb W (.slice L r.length cL) G r → (∀ s ∈ r, U8 s) → (∀ s ∈ r, s.length ≤ 1048576) → r.length ≤ 1048576 → Below w.heap.size w W →
      Calls Tryd.prog 20 #[.slice a root.length c, .int .i64 n, .int .i64 i, .slice a' leaf.length c', .slice L r.length cL] W (TellPost (decide (checkP root n i leaf r)) W) := by
    intro W a a' L c c' cL leaf G r bb h1 h2 hu hm hru hrl hrn hb
    have rows := hm.rows hru (fun s hs => by have := hrl s hs; omega)
    have := Check_c a a' L c c' cL root leaf (mparts G r) n i W h1 ur h2 hu rows (by rw [mparts_len]; omega) bn.2 (ht.below hb)
    rwa [mparts_xs, mparts_len] at this
  obtain ⟨B1, hB1⟩ : ∃ b, b = decide (checkP root n i one p) := ⟨_, rfl⟩
  obtain ⟨C1, hC1⟩ : ∃ b, b = decide (checkP root n i two q) := ⟨_, rfl⟩
  have rc := fun W (k : Below w.heap.size w W) => rCheck_c A ca root one p n i W ur u1 (sp.below k) (by omega) bn.2 (hr.below k)
  rw [← hB1] at rc
  have HB1 := Lib.hid hB1
  have HC1 := Lib.hid hC1
  obtain ⟨lr, hlr⟩ : ∃ l, l = root.length := ⟨_, rfl⟩
  obtain ⟨l1, hl1⟩ : ∃ l, l = one.length := ⟨_, rfl⟩
  obtain ⟨l2, hl2⟩ : ∃ l, l = two.length := ⟨_, rfl⟩
  obtain ⟨lp, hlp⟩ : ∃ l, l = p.length := ⟨_, rfl⟩
  obtain ⟨lq, hlq⟩ : ∃ l, l = q.length := ⟨_, rfl⟩
  have HLR := Lib.hid hlr
  have HL1 := Lib.hid hl1
  have HL2 := Lib.hid hl2
  have HLP := Lib.hid hlp
  have HLQ := Lib.hid hlq
  have HZ := Lib.hid hz
  rw [← hlr] at hr1
  rw [← hl1] at hr2
  rw [← hlp] at cl1 rc ⊢
  rw [← hlq]
  clear hlr hl1 hl2 hlp hlq hB1 hC1 hz
  go_enter Tryd.func5, Tryd.ntmps5
  go_wp2_with fail
  refine cl1.mono ?_; rintro e w3 ⟨v3, G3, rfl, hm3, hb3⟩
  obtain ⟨L3, cL3, rfl⟩ := hm3.sl
  have hB3 := hB2.trans (hb3.mono hB2.size)
  have k1 := chk w3 _ _ L3 c1 c2 cL3 one G3 p _ ((s1.below hb2).below hb3) (s2.below hb3) u1 hm3 sp.u8 tp (by have := HZ.out; omega) hB3
  rw [← HB1.out, ← HLR.out, ← HL1.out, ← HLP.out] at k1
  rw [← HLP.out]
  clear cl1 hr1 hr2 hm3 s1 s2
  go_wp2_with fail
  refine k1.mono ?_; rintro e w4 ⟨rfl, hb4⟩
  have hB4 := hB3.trans (hb4.mono hB3.size)
  clear k1 hb1 hb2 hb3 hb4 hB2 hB3
  obtain ⟨w5, c5, hr5, s5, hb5⟩ := run_bytes_of (P := Tryd.prog) w4 9 25 5 Tryd.underlying9 Tryd.underlying25 Tryd.underlying5 ur (by have := HZ.out; omega)
  obtain ⟨w6, c6, hr6, s6, hb6⟩ := run_bytes_of (P := Tryd.prog) w5 9 25 5 Tryd.underlying9 Tryd.underlying25 Tryd.underlying5 u2 (by have := HZ.out; omega)
  have hB6 := (hB4.trans (hb5.mono hB4.size)).trans (hb6.mono (Nat.le_trans hB4.size hb5.size))
  have cl2 := lists_c B cb q w6 (sq.below hB6) (fun s hs => by have := tq s hs; omega) (by have := HZ.out; omega)
  unfold ListsPost at cl2
  rw [← HLR.out] at hr5
  rw [← HL2.out] at hr6
  rw [← HLQ.out] at cl2
  go_wp2_with fail
  refine cl2.mono ?_; rintro e w7 ⟨v7, G7, rfl, hm7, hb7⟩
  obtain ⟨L7, cL7, rfl⟩ := hm7.sl
  have hB7 := hB6.trans (hb7.mono hB6.size)
  have k2 := chk w7 _ _ L7 c5 c6 cL7 two G7 q _ ((s5.below hb6).below hb7) (s6.below hb7) u2 hm7 sq.u8 tq (by have := HZ.out; omega) hB7
  rw [← HC1.out, ← HLR.out, ← HL2.out, ← HLQ.out] at k2
  rw [← HLQ.out]
  clear cl2 hr5 hr6 hm7 s5 s6 chk
  go_wp2_with fail
  refine k2.mono ?_; rintro e w8 ⟨rfl, hb8⟩
  have hB8 := hB7.trans (hb8.mono hB7.size)
  have rc8 := rc w8 hB8
  clear k2 hb5 hb6 hb7 hb8 hB4 hB6 hB7 rc
  go_wp2_with fail
  refine rc8.mono ?_; rintro e w9 ⟨rfl, hb9⟩
  have hB9 := hB8.trans (hb9.mono hB8.size)
  clear rc8 hb9 hB8
  have bb : (B1 != B1) = false := by simp
  cases B1 with
  | false =>
    go_wp2_with fail
    go_ret
    exact ⟨rfl, hB9⟩
  | true =>
    cases C1 with
    | false =>
      go_wp2_with fail
      go_ret
      exact ⟨rfl, hB9⟩
    | true =>
      have se := str_eq u1 u2
      by_cases h12 : one = two
      · rw [decide_eq_true h12] at se
        clear h12
        go_wp2_with fail
        go_ret
        exact ⟨rfl, hB9⟩
      · rw [decide_eq_false h12] at se
        have P1 := of_decide_eq_true HB1.out.symm
        have P2 := of_decide_eq_true HC1.out.symm
        obtain ⟨ts, ts', r1, r2, ll, cls⟩ := binds u1 u2 sp.u8 sq.u8 P1 P2 h12 bn.2
        obtain ⟨N, rfl⟩ : ∃ N : Nat, n = (N : Int) := ⟨n.toNat, by have := P1.2.2.1; have := P1.2.2.2.1; omega⟩
        obtain ⟨I, rfl⟩ : ∃ I : Nat, i = (I : Int) := ⟨i.toNat, by have := P1.2.2.1; omega⟩
        rw [Int.toNat_natCast, Int.toNat_natCast] at r1 r2
        have NI : I < N := by have := P1.2.2.2.1; omega
        have t1 := Texts_c N I one A ca p w9 (by omega) (by omega) NI u1 (sp.below hB9) P1.2.1 P1.1.2 (by have := HZ.out; omega) (hr.below hB9)
        have t2 := fun W (k : Below w.heap.size w W) => Texts_c N I two B cb q W (by omega) (by omega) NI u2 (sq.below k) P2.2.1 P2.1.2 (by have := HZ.out; omega) (hr.below k)
        unfold TextsPost at t1 t2
        rw [r1, ← HLP.out] at t1
        simp only [r2, ← HLQ.out] at t2
        have LL := Lib.hid ll
        clear P1 P2 h12 r1 r2 ll
        go_wp2_with fail
        refine t1.mono ?_; rintro e w10 ⟨v10, d10, ok10, rfl, ud, hb10, ⟨rfl, rfl, ut, hv10⟩⟩
        have hB10 := hB9.trans (hb10.mono hB9.size)
        have t3 := t2 w10 hB10
        clear t1 t2
        go_wp2_with fail
        refine t3.mono ?_; rintro e w11 ⟨v11, d11, ok11, rfl, ud', hb11, ⟨rfl, rfl, ut', hv11⟩⟩
        have hB11 := hB10.trans (hb11.mono hB10.size)
        obtain ⟨X, cX, rfl, sX⟩ := hv10.ss ut
        obtain ⟨Y, cY, rfl, sY⟩ := hv11.ss ut'
        have kk := clash_c X Y cX cY ts ts' w11 (sX.below hb11) sY LL.out cls (hr.below hB11)
        clear t3 hb10 hb11 hv10 hv11 hB10
        go_wp2_with fail
        refine kk.mono ?_; rintro e w12 ⟨rfl, hb12⟩
        go_wp2_with fail
        go_ret
        exact ⟨rfl, hB11.trans (hb12.mono hB11.size)⟩
end Go.Proofs.YtmbifokiebjmmaaDoor
