/- signetlaw7.ModnSpares by its contract. (Printed by gen_modnspares.py.) -/
import Derived.Test.YtadldaidbcdaeaaLawSevenE
import Derived.Test.YtadldaidbcdaeaaOpen
set_option linter.unusedVariables false
set_option linter.unusedSimpArgs false
namespace Go.Proofs.Ytadldaidbcdaeaa
open Go.RowKit Go.Sg

set_option maxHeartbeats 16000000 in
set_option maxRecDepth 20000 in
theorem ModnSpares_c (aa ab am : Option Addr) (pa pb pm : Nat) (xa xb xm : List Int) (w : World) (sa : Sl .u32 w aa pa xa) (sb : Sl .u32 w ab pb xb) (sm : Sl .u32 w am pm xm) (ua : U32 xa) (ub : U32 xb) (um : U32 xm) (hz : xa.length + xb.length + xm.length ≤ 1048576) :
    Calls Try.prog 16 #[.slice aa xa.length pa, .slice ab xb.length pb, .slice am xm.length pm] w (TruePost w) := by
  obtain ⟨za, hza⟩ : ∃ z, z = xa.length := ⟨_, rfl⟩
  obtain ⟨zb, hzb⟩ : ∃ z, z = xb.length := ⟨_, rfl⟩
  obtain ⟨zm, hzm⟩ : ∃ z, z = xm.length := ⟨_, rfl⟩
  rw [← hza, ← hzb, ← hzm] at hz ⊢
  have HA := Lib.hid hza
  have HB := Lib.hid hzb
  have HM := Lib.hid hzm
  have lz : Hid (za + zb + zm ≤ 1048576) := Lib.hid hz
  have rm_ : ∀ (z : Nat) (bs : List Int) (a : Option Addr) (cap : Nat) (W : World), z = bs.length → z ≤ 1048576 → Sl .u32 W a cap bs → Calls Try.prog 74 #[.slice a z cap] W (fun e w' => ∃ g, e = .returned (.slice (some ⟨g, 0, none⟩) z (z + 4)) ∧ W.heap.size ≤ g ∧ Blk w' g .u32 52 (bs ++ m4) ∧ Below W.heap.size W w') := by
    intro z bs a cap W hzz hle hs
    have := roomy7_c a cap bs W hs (by omega)
    unfold RoomPost7 at this
    rwa [← hzz] at this
  have spr : ∀ (z : Nat) (bs : List Int) (g : Nat) (a : Option Addr) (cp : Nat) (W : World), z = bs.length → z ≤ 1048576 → U32 bs → Blk W g .u32 52 (bs ++ m4) → Sl .u32 w a cp bs → Below w.heap.size w W → Calls Try.prog 75 #[.slice (some ⟨g, 0, none⟩) z (z + 4), .slice a z cp] W (BoolPost true W) := by
    intro z bs g a cp W hzz hle u hk hs hB
    have := spared7_c g a cp bs W hk (hs.below hB) u (by omega)
    rwa [← hzz] at this
  obtain ⟨n, hn⟩ : ∃ x, x = val xa := ⟨_, rfl⟩
  obtain ⟨n', hn'⟩ : ∃ x, x = val xb := ⟨_, rfl⟩
  obtain ⟨m, hm⟩ : ∃ x, x = val xm := ⟨_, rfl⟩
  have num : ∀ (z : Nat) (bs : List Int) (g : Nat) (W : World) (k : Nat), z = bs.length → z ≤ 1048576 → U32 bs → k = val bs → Blk W g .u32 52 (bs ++ m4) → NumAt W (.slice (some ⟨g, 0, none⟩) z (z + 4)) k := by
    intro z bs g W k hzz hle u hk h
    have s := blk4_sl h (by omega)
    have := NumAt.of s u (by omega)
    rwa [← hzz, ← hk] at this
  have za1 : za ≤ 1048576 := by omega
  have zb1 : zb ≤ 1048576 := by omega
  have zm1 : zm ≤ 1048576 := by omega
  have aw := awake_v w
  have sa0 := sa
  have sb0 := sb
  have sm0 := sm
  have HNA := Lib.hid hn
  have HNB := Lib.hid hn'
  have HNM := Lib.hid hm
  clear hza hzb hzm hz hn hn' hm sa sb sm
  go_enter Try.func16, Try.ntmps16
  have hB := Below.refl w.heap.size w
  go_wp2_with fail
  refine aw.mono ?_; rintro e_ w1 ⟨rfl, hb⟩
  replace hB := hB.trans (hb.mono hB.size)
  clear aw hb
  go_wp2_with fail
  refine (rm_ za xa _ _ _ HA.out za1 (sa0.below hB)).mono ?_; rintro e_ w2 ⟨gA, rfl, hgA, pA, hb⟩
  replace hB := hB.trans (hb.mono hB.size)
  clear hb
  go_wp2_with fail
  refine (rm_ zb xb _ _ _ HB.out zb1 (sb0.below hB)).mono ?_; rintro e_ w3 ⟨gB, rfl, hgB, pB, hb⟩
  replace pA := pA.below hb pA.lt
  replace hB := hB.trans (hb.mono hB.size)
  clear hb
  go_wp2_with fail
  refine (rm_ zm xm _ _ _ HM.out zm1 (sm0.below hB)).mono ?_; rintro e_ w4 ⟨gM, rfl, hgM, pM, hb⟩
  replace pA := pA.below hb pA.lt
  replace pB := pB.below hb pB.lt
  replace hB := hB.trans (hb.mono hB.size)
  clear hb hgA hgB hgM
  have nA := num za xa gA _ n HA.out za1 ua HNA.out pA
  have nB := num zb xb gB _ n' HB.out zb1 ub HNB.out pB
  have nM := num zm xm gM _ m HM.out zm1 um HNM.out pM
  obtain ⟨vA, hvA⟩ : ∃ v, v = Value.slice (some ⟨gA, 0, none⟩) za (za + 4) := ⟨_, rfl⟩
  obtain ⟨vB, hvB⟩ : ∃ v, v = Value.slice (some ⟨gB, 0, none⟩) zb (zb + 4) := ⟨_, rfl⟩
  obtain ⟨vM, hvM⟩ : ∃ v, v = Value.slice (some ⟨gM, 0, none⟩) zm (zm + 4) := ⟨_, rfl⟩
  rw [← hvA] at nA ⊢
  rw [← hvB] at nB ⊢
  rw [← hvM] at nM ⊢
  obtain ⟨oA, hoA⟩ : ∃ o : Option Nat, o = (if wrongN [n, n', m] = 0 then some ((n + n') % m) else none) := ⟨_, rfl⟩
  have HVA := Lib.hid hvA
  have HVB := Lib.hid hvB
  have HVM := Lib.hid hvM
  have add_ : ∀ W v, Below w4.heap.size w4 W → NumAt W v n → Calls Try.prog 72 #[v, vB, vM] W (OutPost oA W) := fun W v k h => by
    rw [hoA]
    exact (mAdd_v h (nB.below k) (nM.below k)).mono fun e w' p => ModPost.out p (fun h0 => Nat.mod_lt _ h0)
  have sub_ : ∀ W, Below w4.heap.size w4 W → Calls Try.prog 73 #[vA, vB, vM] W (AnyPost W) := fun W k => (mSub_v (nA.below k) (nB.below k) (nM.below k)).mono fun e w' p => (ModPost.out p (fun h0 => Go.Sg.subM_lt (Nat.mod_lt _ h0) (Nat.mod_lt _ h0))).any
  have mul_ : ∀ W, Below w4.heap.size w4 W → Calls Try.prog 67 #[vA, vB, vM] W (AnyPost W) := fun W k => (mMul_v (nA.below k) (nB.below k) (nM.below k)).mono fun e w' p => (ModPost.out p (fun h0 => Nat.mod_lt _ h0)).any
  have inv_ : ∀ W, Below w4.heap.size w4 W → Calls Try.prog 64 #[vA, vM] W (AnyPost W) := fun W k => (mInv_v (nA.below k) (nM.below k)).mono fun e w' p => InvPost.any p
  have exp_ : ∀ W, Below w4.heap.size w4 W → Calls Try.prog 71 #[vA, .slice (some ⟨W.heap.size, 0, none⟩) 1 1, vM] (W.alloc (.cells #[.int .u32 1] 52)) (AnyPost W) := fun W k => by
    have al := (Below.refl W.heap.size W).alloc (Nat.le_refl _) (.cells #[.int .u32 1] 52)
    refine (mExp_v ((nA.below k).below al) (can_lit W W.heap.size 1 1 rfl rfl (by omega) (by omega)).num ((nM.below k).below al)).mono fun e w' p => ?_
    obtain ⟨v, c, zs, h1, h2, h3, h4⟩ := (ModPost.out p (fun h0 => Nat.mod_lt _ h0)).any
    exact ⟨v, c, zs, h1, h2.mono al.size, h3, al.trans (h4.mono al.size)⟩
  clear hoA hvA hvB hvM num
  have hF := Below.refl w4.heap.size w4
  go_wp2_with fail
  go_loopw [10, 11] (fun l t wr => ∃ (i : Nat) (V : Nat → Value) (A : Nat → List Int), i ≤ 2 ∧ t = .int .i64 (i : Int) ∧ Lists w4.heap.size .u32 52 30 wr l (5 * i) V A ∧ (0 < i → OutIs oA (A 0)) ∧ (∀ j, j < 5 * i → (A j).length ≤ 128) ∧ Below w4.heap.size w4 wr) (fun _ t _ => 2 - (intOf t).toNat)
  case atStart => exact ⟨0, fun _ => undef, fun _ => [], by omega, rfl, ⟨.nil _ _ _, .zero _ _ _ _ _ _⟩, fun h => by omega, fun j h => by omega, hF⟩
  case round =>
    clear hF
    obtain ⟨i, V, A, hi, rfl, hL, hO, hl, hF⟩ := hrel
    obtain ⟨q, hq⟩ : ∃ q, q = 5 * i := ⟨_, rfl⟩
    rw [← hq] at hL hl
    have HQ := Lib.hid hq
    clear hq
    obtain ⟨al_, cl_, rfl⟩ := hL.sl
    by_cases hlt : i < 2
    · have hd : decide ((i : Int) < 2) = true := decide_eq_true (by omega)
      have fs := hF.size
      have lw := hL
      go_wp2_with fail
      refine (add_ _ _ hF (nA.below hF)).mono ?_; rintro e_ x1 ⟨y1, c1, z1, rfl, n1, o1, l1, hb⟩
      have b1 := hb
      replace hF := hF.trans (hb.mono hF.size)
      clear hb
      go_wp2_with fail
      refine (sub_ _ hF).mono ?_; rintro e_ x2 ⟨y2, c2, z2, rfl, n2, l2, hb⟩
      have b2 := hb
      replace hF := hF.trans (hb.mono hF.size)
      clear hb
      go_wp2_with fail
      refine (mul_ _ hF).mono ?_; rintro e_ x3 ⟨y3, c3, z3, rfl, n3, l3, hb⟩
      have b3 := hb
      replace hF := hF.trans (hb.mono hF.size)
      clear hb
      go_wp2_with fail
      refine (inv_ _ hF).mono ?_; rintro e_ x4 ⟨y4, c4, z4, rfl, n4, l4, hb⟩
      have b4 := hb
      replace hF := hF.trans (hb.mono hF.size)
      clear hb
      go_wp2_with fail
      refine (exp_ _ hF).mono ?_; rintro e_ x5 ⟨y5, c5, z5, rfl, n5, l5, hb⟩
      have b5 := hb
      replace hF := hF.trans (hb.mono hF.size)
      clear hb
      obtain ⟨V1, A1, f1, r1, a1, e1, s1, t1⟩ := hL.fam.push' (n1.mono fs) b1 (fresh_of_new n1)
      obtain ⟨V2, A2, f2, r2, a2, e2, s2, t2⟩ := f1.push' (n2.mono (Nat.le_trans fs b1.size)) b2 (fresh_of_new n2)
      obtain ⟨V3, A3, f3, r3, a3, e3, s3, t3⟩ := f2.push' (n3.mono (Nat.le_trans fs (Nat.le_trans b1.size b2.size))) b3 (fresh_of_new n3)
      obtain ⟨V4, A4, f4, r4, a4, e4, s4, t4⟩ := f3.push' (n4.mono (Nat.le_trans fs (Nat.le_trans b1.size (Nat.le_trans b2.size b3.size)))) b4 (fresh_of_new n4)
      obtain ⟨V5, A5, f5, r5, a5, e5, s5, t5⟩ := f4.push' (n5.mono (Nat.le_trans fs (Nat.le_trans b1.size (Nat.le_trans b2.size (Nat.le_trans b3.size b4.size))))) b5 (fresh_of_new n5)
      obtain ⟨d1, k1, rfl, _⟩ := n1.sl
      obtain ⟨d2, k2, rfl, _⟩ := n2.sl
      obtain ⟨d3, k3, rfl, _⟩ := n3.sl
      obtain ⟨d4, k4, rfl, _⟩ := n4.sl
      obtain ⟨d5, k5, rfl, _⟩ := n5.sl
      have rr : (List.range (q + 5)).map V5 = (List.range q).map V ++ [(Value.slice d1 z1.length k1), (Value.slice d2 z2.length k2), (Value.slice d3 z3.length k3), (Value.slice d4 z4.length k4), (Value.slice d5 z5.length k5)] := by
        rw [show q + 5 = q + 1 + 1 + 1 + 1 + 1 from rfl, r5, r4, r3, r2, r1]
        simp
      have ez : A5 q = z1 := by rw [a5 q (by omega), a4 q (by omega), a3 q (by omega), a2 q (by omega), e1]
      have eo : ∀ j, j < q → A5 j = A j := fun j hj => by rw [a5 j (by omega), a4 j (by omega), a3 j (by omega), a2 j (by omega), a1 j hj]
      have hl5 : ∀ j, j < q + 5 → (A5 j).length ≤ 128 := fun j hj => by
        by_cases h0 : j < q
        · rw [eo j h0]; exact hl j h0
        · rcases (show j = q ∨ j = q + 1 ∨ j = q + 1 + 1 ∨ j = q + 1 + 1 + 1 ∨ j = q + 1 + 1 + 1 + 1 by omega) with h | h | h | h | h <;> rw [h]
          · rw [ez]; exact l1
          · rw [a5 _ (by omega), a4 _ (by omega), a3 _ (by omega), e2]; exact l2
          · rw [a5 _ (by omega), a4 _ (by omega), e3]; exact l3
          · rw [a5 _ (by omega), e4]; exact l4
          · rw [e5]; exact l5
      have hO5 : OutIs oA (A5 0) := by
        by_cases h0 : 0 < i
        · rw [eo 0 (by have := HQ.out; omega)]; exact hO h0
        · have : q = 0 := by have := HQ.out; omega
          rw [this] at ez
          rw [ez]; exact o1
      have row5 := ((((hL.row.keep b1).keep b2).keep b3).keep b4).keep b5
      have hone : ∀ u ∈ [Value.slice d1 z1.length k1, .slice d2 z2.length k2, .slice d3 z3.length k3, .slice d4 z4.length k4, .slice d5 z5.length k5], ∃ a n c, u = Value.slice a n c := by
        intro u hu
        simp only [List.mem_cons, List.not_mem_nil, or_false] at hu
        rcases hu with rfl | rfl | rfl | rfl | rfl <;> exact ⟨_, _, _, rfl⟩
      have F5 := f5
      have fs5 := hF.size
      have q10 : q ≤ 5 := by have := HQ.out; omega
      clear n1 n2 n3 n4 n5 f1 f2 f3 f4 f5 r1 r2 r3 r4 r5 a1 a2 a3 a4 a5 e1 e2 e3 e4 e5 s1 s2 s3 s4 s5 t1 t2 t3 t4 t5 b1 b2 b3 b4 b5 l1 l2 l3 l4 l5 o1 ez hl hO lw fs hL
      obtain ⟨us, hus⟩ : ∃ us, us = [(Value.slice d1 z1.length k1), (Value.slice d2 z2.length k2), (Value.slice d3 z3.length k3), (Value.slice d4 z4.length k4), (Value.slice d5 z5.length k5)] := ⟨_, rfl⟩
      have lus : us.length = 5 := by rw [hus]; rfl
      rw [← hus] at hone rr
      have hcells := cells_news x5 30 us #[Value.slice d1 z1.length k1, (Value.slice d2 z2.length k2), (Value.slice d3 z3.length k3), (Value.slice d4 z4.length k4), (Value.slice d5 z5.length k5)] (by rw [hus]) _ rfl
      have hm_ : ((List.range q).map V).length + us.length ≤ 9223372036854775807 := by rw [lus]; simp; omega
      have hby_ : (((List.range q).map V).length + us.length) * 24 ≤ 140737488355328 := by rw [lus]; simp; omega
      have hBs_ : w4.heap.size ≤ (x5.alloc (.cells #[Value.slice d1 z1.length k1, (Value.slice d2 z2.length k2), (Value.slice d3 z3.length k3), (Value.slice d4 z4.length k4), (Value.slice d5 z5.length k5)] 30)).heap.size := by simp; omega
      have row6 := row5.alloc (.cells #[Value.slice d1 z1.length k1, (Value.slice d2 z2.length k2), (Value.slice d3 z3.length k3), (Value.slice d4 z4.length k4), (Value.slice d5 z5.length k5)] 30)
      have LUS := Lib.hid lus
      have p5 : 0 < us.length := by omega
      clear lus hus
      go_wp2_with (at_builtin; refine wpList_append_newVs _ rfl _ _ 56 rfl w4.heap.size 30 24 Try.underlying56 infoN _ ((List.range q).map V) rfl row6 ⟨x5.heap.size, 0, none⟩ 5 us hone (by rw [LUS.out]; rfl) hcells p5 hm_ hby_ hBs_ ?_)
      intro v' w' hv' hg' _
      have al := (Below.refl x5.heap.size x5).alloc (Nat.le_refl _) (.cells #[Value.slice d1 z1.length k1, (Value.slice d2 z2.length k2), (Value.slice d3 z3.length k3), (Value.slice d4 z4.length k4), (Value.slice d5 z5.length k5)] 30)
      have hL' := Lists.grow (row5.alloc _) (F5.keep al) (by decide) hv' hg' rr
      have hF' := (hF.alloc fs5 _).grown hg' (by simp; omega) (fun g hg => (row5.lt g hg).1)
      clear hv' hg' row5 F5 hone rr al hF
      go_wp2_with fail
      go_roundw
      case rel => exact ⟨i + 1, V5, A5, by omega, by go_num, by rw [show 5 * (i + 1) = q + 5 by have := HQ.out; omega]; exact hL', fun _ => hO5, fun j hj => hl5 j (by have := HQ.out; omega), hF'⟩
      case measure => simp [intOf]; omega
    · have hd : decide ((i : Int) < 2) = false := decide_eq_false (by omega)
      obtain rfl : i = 2 := by omega
      have hq10 : q = 10 := HQ.out
      subst hq10
      have hO := hO (by omega)
      clear hd
      have hd : decide ((2 : Int) < 2) = false := by decide

      obtain ⟨gl, rfl, _⟩ := hL.row.place (show 0 < 10 by omega)
      obtain ⟨w5, rfl⟩ : ∃ x, x = wr := ⟨_, rfl⟩
      have fsz := hF.size
      have h0 := Below.refl w5.heap.size w5
      have hL5 := hL
      go_wp2_with fail
      go_loopw [22, 23] (fun u t wr => ∃ (j : Nat) (us : List Value), j ≤ 10 ∧ t = .int .i64 (j : Int) ∧ NewV w5.heap.size 30 wr u us ∧ us.length = j ∧ (0 < j → ∃ g, us[0]? = some (.slice (some ⟨g, 0, none⟩) (A 0).length ((A 0).length + 4)) ∧ Blk wr g .u32 52 (A 0 ++ m4)) ∧ Below w5.heap.size w5 wr) (fun _ t _ => 10 - (intOf t).toNat)
      case atStart => exact ⟨0, [], by omega, rfl, .nil _ _ _, rfl, fun h => by omega, h0⟩
      case round =>
        clear h0
        obtain ⟨j, us, hj, rfl, hU, hul, hfst, hb⟩ := hrel
        have HUL := Lib.hid hul
        obtain ⟨au, cu, rfl⟩ := hU.sl
        rw [hul] at hU ⊢
        clear hul
        have hbs := hb.size
        have hLk := hL5.keep hb
        by_cases hlt : j < 10
        · have hd : decide ((j : Int) < 10) = true := decide_eq_true (by omega)
          have hj10 : (j : Int) < 10 := by omega
          obtain ⟨_, e, cell⟩ := hLk.row.place hlt
          cases e
          obtain ⟨aj, cj, hVj, sj, _⟩ := hLk.fam.own hlt
          rw [hVj] at cell
          have hlj := hl j hlt
          obtain ⟨X, hX⟩ : ∃ X, X = A j := ⟨_, rfl⟩
          rw [← hX] at cell sj hlj
          obtain ⟨zj, hzj⟩ : ∃ z, z = X.length := ⟨_, rfl⟩
          rw [← hzj] at cell hlj
          have HX := Lib.hid hX
          have HZJ := Lib.hid hzj
          have rj := fun W (k : Sl .u32 W aj cj X) => rm_ zj X aj cj W HZJ.out (by omega) k
          have hF2 := hF.trans (hb.mono fsz)
          clear hVj hX hzj hLk
          go_wp2_with fail
          refine (rj _ sj).mono ?_; rintro e_ w6 ⟨g, rfl, hg, hk, hb6⟩
          have hU6 := hU.keep hb6
          have al := (Below.refl w6.heap.size w6).alloc (Nat.le_refl _) (.cells #[.slice (some ⟨g, 0, none⟩) zj (zj + 4)] 30)
          have hB6 := hb.trans (hb6.mono hbs)
          have hs6 := hB6.size
          have hfst6 : 0 < j → ∃ g, us[0]? = some (.slice (some ⟨g, 0, none⟩) (A 0).length ((A 0).length + 4)) ∧ Blk w6 g .u32 52 (A 0 ++ m4) := fun h => by
            obtain ⟨g, h1, h2⟩ := hfst h
            exact ⟨g, h1, h2.below hb6 h2.lt⟩
          clear hU hb hfst hbs hb6 rj sj
          go_wp2_with (at_builtin; refine wpList_append_newV _ rfl _ _ 56 rfl w5.heap.size 30 24 Try.underlying56 infoN _ us rfl (hU6.alloc _) _ 1 (.slice (some ⟨g, 0, none⟩) zj (zj + 4)) ⟨_, _, _, rfl⟩ rfl (cell_new1 _ _ _ _) (by rw [HUL.out]; omega) (by rw [HUL.out]; omega) (by simp; omega) ?_)
          intro v' w7 hv7 hg7 _
          have hg7' := (hB6.trans (al.mono hs6)).grown hg7 (by simp; omega) (fun x hx => (hU6.lt x hx).1)
          have us' : Hid ((us ++ [Value.slice (some ⟨g, 0, none⟩) zj (zj + 4)]).length = j + 1) := Lib.hid (by rw [List.length_append, HUL.out]; rfl)
          have hk7 : Blk w7 g .u32 52 (X ++ m4) := (hk.alloc _).grown hg7 (fun e => by
            exact hU6.aside_blk hk (by decide) e)
          have hfst7 : 0 < j + 1 → ∃ g', (us ++ [Value.slice (some ⟨g, 0, none⟩) zj (zj + 4)])[0]? = some (.slice (some ⟨g', 0, none⟩) (A 0).length ((A 0).length + 4)) ∧ Blk w7 g' .u32 52 (A 0 ++ m4) := fun _ => by
            by_cases h0 : 0 < j
            · obtain ⟨g', h1, h2⟩ := hfst6 h0
              exact ⟨g', by rw [List.getElem?_append_left (by rw [HUL.out]; exact h0)]; exact h1, (h2.alloc _).grown hg7 (fun e => hU6.aside_blk h2 (by decide) e)⟩
            · have e0 : j = 0 := by omega
              have eu : us = [] := List.eq_nil_of_length_eq_zero (by rw [HUL.out]; exact e0)
              refine ⟨g, ?_, ?_⟩
              · rw [eu, HZJ.out, HX.out, e0]; rfl
              · have := hk7
                rwa [HX.out, e0] at this
          clear hk hg7 hU6 al hB6 hk7 hfst6
          go_wp2_with fail
          go_roundw
          case rel => exact ⟨j + 1, _, by omega, by go_num, hv7, us'.out, hfst7, hg7'⟩
          case measure => simp [intOf]; omega
        · have hd : decide ((j : Int) < 10) = false := decide_eq_false (by omega)
          obtain rfl : j = 10 := by omega
          clear hd
          have hd : decide ((10 : Int) < 10) = false := by decide
          obtain ⟨g0, hu0, hk0⟩ := hfst (by omega)
          clear hfst
          have hF5 := hF.trans (hb.mono fsz)
          have fs5 := hF5.size
          have hBw := hB.trans (hF5.mono hB.size)
          obtain ⟨w8, rfl⟩ : ∃ x, x = wr := ⟨_, rfl⟩
          go_wp2_with fail
          refine (rm_ za xa aa pa _ HA.out za1 (sa0.below hBw)).mono ?_; rintro e_ w9 ⟨gR, rfl, hgR, hkR, hb9⟩
          have nR := New.of_blk (B := w8.heap.size) hkR hgR za (za + 4) (by omega) (by rw [List.length_append, ← HA.out]; exact Nat.le_refl _) (by omega)
          rw [show (xa ++ m4).take za = xa by rw [HA.out]; exact List.take_left] at nR
          have fs8 := hF5.size
          have hs9 := hb9.size
          have c2 := (cells_new .u32 w9 52 [0, 0] #[.int .u32 0, .int .u32 0] rfl _ rfl).sl_full (by simp)
          clear hkR hL hL5 hF
          go_wp2_with (at_builtin; refine wpList_append_new _ rfl _ _ 30 rfl w8.heap.size 52 .u32 4 Try.underlying30 info32 _ xa rfl (nR.alloc _) _ _ 2 [0, 0] rfl rfl c2.cells (by rw [← HA.out]; simp; omega) (by rw [← HA.out]; simp; omega) (by simp; omega) ?_)
          intro v10 w10 n10 g10 _
          have al := (Below.refl w9.heap.size w9).alloc (Nat.le_refl _) (.cells #[.int .u32 0, .int .u32 0] 52)
          have hb10 : Below w8.heap.size w8 w10 := (hb9.trans (al.mono hs9)).grown g10 (by simp; omega) (fun x hx => (nR.lt x hx).1)
          obtain ⟨aR, cR, rfl, sR⟩ := n10.sl
          have nuR := NumAt.of sR (ua.append (by omega) (.of_mem (by omega) (by decide))) (by rw [List.length_append, ← HA.out]; simp; omega)
          rw [show val (xa ++ [0, 0]) = n by rw [val_append, HNA.out]; simp [val]] at nuR
          obtain ⟨vR, hvR⟩ : ∃ v, v = Value.slice aR (xa ++ [0, 0]).length cR := ⟨_, rfl⟩
          rw [← hvR] at nuR ⊢
          have hF10 := hF5.trans (hb10.mono hF5.size)
          clear n10 g10 al c2 nR sR hvR hb9 hs9
          go_wp2_with fail
          refine (add_ _ _ hF10 nuR).mono ?_; rintro e_ w11 ⟨y, c, z, rfl, nz, oz, lz_, hb11⟩
          obtain ⟨ay, cy, rfl, sy⟩ := nz.sl
          have hb8 := hb10.trans (hb11.mono hb10.size)
          have hU := hU.keep hb8
          have hk0 := hk0.below hb8 hk0.lt
          have hL := hLk.keep hb8
          have hF := hF10.trans (hb11.mono hF10.size)
          have hB2 := hBw.trans (hb8.mono hBw.size)
          obtain ⟨gu, eu, _, cu0⟩ := hU.cell 0 (by rw [HUL.out]; omega)
          subst eu
          have eu0 : us[0]'(by rw [HUL.out]; omega) = .slice (some ⟨g0, 0, none⟩) (A 0).length ((A 0).length + 4) := by
            have := List.getElem?_eq_getElem (l := us) (i := 0) (by rw [HUL.out]; omega)
            rw [hu0] at this
            exact (Option.some.inj this).symm
          rw [eu0] at cu0
          have sm7 := same7_c ay (some ⟨g0, 0, none⟩) cy ((A 0).length + 4) z (A 0) _ sy (blk4_sl hk0 (by have := hl 0 (by omega); omega))
          rw [decide_eq_true (OutIs.uniq oz hO)] at sm7
          clear hLk hF5 hBw hb10 hb11 hb8 nuR hF10 nz sy oz lz_ hO hu0 eu0 hk0
          go_wp2_with fail
          refine sm7.mono ?_; rintro e_ w12 ⟨rfl, hd12⟩
          have hb12 := hd12.b
          have hL := hL.keep hb12
          have hF := hF.trans (hb12.mono hF.size)
          have hB2 := hB2.trans (hb12.mono hB2.size)
          clear sm7 hd12 hb12 cu0
          obtain ⟨f1, hf1⟩ : ∃ f : Nat → Int, f = fun (j : Nat) => 1000 + (j : Int) := ⟨_, rfl⟩
          have HF1 : ∀ j, f1 j = 1000 + (j : Int) := fun j => by rw [hf1]
          have hL0 := hL.congr (A' := fillF f1 A 0 0) (fun j _ => (fillF_start f1 A j).symm)
          have LENS : Hid (∀ j, j < 10 → (A j).length ≤ 128) := Lib.hid fun j hj => hl j (by omega)
          have hwF := hB.size
          clear hf1 hL hl
          go_wp2_with fail
          go_loopw [27] (fun t wr => ∃ i : Nat, i ≤ 10 ∧ t = .int .i64 (i : Int) ∧ Lists w4.heap.size .u32 52 30 wr (.slice (some ⟨gl, 0, none⟩) 10 cl_) 10 V (fillF f1 A i 0) ∧ Below w4.heap.size w4 wr ∧ Below w.heap.size w wr) (fun t _ => 10 - (intOf t).toNat)
          case atStart => exact ⟨0, by omega, rfl, hL0, hF, hB2⟩
          case round =>
            clear hL0 hF hB2
            obtain ⟨i, hi, rfl, hL, hF, hB2⟩ := hrel
            by_cases hlt : i < 10
            · have hd : decide ((i : Int) < 10) = true := decide_eq_true (by omega)
              have hi10 : (i : Int) < 10 := by omega
              obtain ⟨zi, hzi⟩ : ∃ z, z = (A i).length := ⟨_, rfl⟩
              have HZI := Lib.hid hzi
              have zb : zi ≤ 128 := by rw [hzi]; exact LENS.out i hlt
              obtain ⟨ai, ci, hVi, _, _⟩ := hL.fam.own hlt
              rw [fillF_len _ _ _ _ _ (by omega), ← hzi] at hVi
              have HV := Lib.hid hVi
              obtain ⟨w13, rfl⟩ : ∃ x, x = wr := ⟨_, rfl⟩
              clear hzi hVi hd
              go_wp2_with fail
              go_loopw [28] (fun t wr => ∃ k : Nat, k ≤ zi ∧ t = .int .i64 (k : Int) ∧ Lists w4.heap.size .u32 52 30 wr (.slice (some ⟨gl, 0, none⟩) 10 cl_) 10 V (fillF f1 A i k) ∧ Below w4.heap.size w4 wr ∧ Below w.heap.size w wr) (fun t _ => zi - (intOf t).toNat)
              case atStart => exact ⟨0, by omega, rfl, hL, hF, hB2⟩
              case round =>
                clear hL hF hB2
                obtain ⟨k, hk, rfl, hL, hF, hB2⟩ := hrel
                obtain ⟨_, e, cell⟩ := hL.row.place hlt
                cases e
                rw [HV.out] at cell
                by_cases hkl : k < zi
                · have hd : decide ((k : Int) < (zi : Int)) = true := decide_eq_true (by omega)
                  have hkz : (k : Int) < (zi : Int) := by omega
                  obtain ⟨g, c, hv2, hfr, hcl, hg, hL2⟩ := hL.put (by decide) hlt (j := k) (by rw [fillF_len _ _ _ _ _ (by rw [← HZI.out]; omega), ← HZI.out]; exact hkl) (f1 i)
                  rw [HV.out] at hv2
                  simp only [Value.slice.injEq] at hv2
                  obtain ⟨rfl, _, rfl⟩ := hv2
                  have hL3 := hL2.congr (A' := fillF f1 A i (k + 1)) (fun j _ => fillF_step f1 A i k (by rw [← HZI.out]; exact hkl) j)
                  have hF3 := hF.setCell (p := ⟨g, k, none⟩) hg (.int .u32 (f1 i))
                  have hB3 := hB2.setCell (p := ⟨g, k, none⟩) (Nat.le_trans hwF hg) (.int .u32 (f1 i))
                  rw [HF1 i] at hL3 hF3 hB3
                  clear hL hL2 hF hB2
                  go_wp2_with fail
                  go_roundw
                  case rel => exact ⟨k + 1, by omega, by go_num, hL3, hF3, hB3⟩
                  case measure => simp [intOf]; omega
                · obtain rfl : zi = k := by omega
                  have hd : decide ((zi : Int) < (zi : Int)) = false := by simp
                  have hL3 := hL.congr (A' := fillF f1 A (i + 1) 0) (fun j _ => by rw [HZI.out]; exact fillF_next f1 A i j)
                  go_wp2_with fail
                  go_roundw
                  case rel => exact ⟨i + 1, by omega, by go_num, hL3, hF, hB2⟩
                  case measure => simp [intOf]; omega
            · have hd : decide ((i : Int) < 10) = false := decide_eq_false (by omega)
              obtain rfl : i = 10 := by omega
              rw [show ((10 : Nat) : Int) = 10 from rfl]
              clear hd
              have hd : decide ((10 : Int) < 10) = false := by decide
              obtain ⟨A2, hA2⟩ : ∃ f : Nat → List Int, f = fun j => List.replicate (A j).length (1000 + (j : Int)) := ⟨_, rfl⟩
              have hLA := hL.congr (A' := A2) (fun j hj => by unfold fillF; rw [if_pos hj, HF1, hA2])
              have HA2 := Lib.hid hA2
              have lA2 : Hid (∀ j, j < 10 → (A2 j).length ≤ 128) := Lib.hid fun j hj => by rw [hA2]; simp only [List.length_replicate]; exact LENS.out j hj
              obtain ⟨w14, rfl⟩ : ∃ x, x = wr := ⟨_, rfl⟩
              obtain ⟨S, hS⟩ : ∃ x, x = w14.heap.size := ⟨_, rfl⟩
              have fm := hLA.fam.fam (S := S) (Nat.le_of_eq hS.symm)
              have fm0 := fm.congr (U' := V) (A' := A2) (X' := growF (fun j => 5000 + (j : Int)) 150 0 0) (fun _ _ => rfl) (fun j _ => (growF_start _ _ j).symm) (fun _ _ => rfl)
              have rw0 := hLA.row
              have hSw : S ≤ w14.heap.size := Nat.le_of_eq hS
              have hwS : w4.heap.size ≤ S := by rw [hS]; exact hF.size
              have glS : gl < S := by rw [hS]; exact (hLA.row.lt gl rfl).2
              clear hL hLA fm hA2 hS LENS
              go_wp2_with fail
              go_loopw [29, 30] (fun mo t wr => ∃ (i : Nat) (U : Nat → Value), i ≤ 10 ∧ t = .int .i64 (i : Int) ∧ Fam S w4.heap.size .u32 52 wr 10 V U A2 (growF (fun j => 5000 + (j : Int)) 150 i 0) ∧ (∀ j, i ≤ j → U j = V j) ∧ NewV S 30 wr mo ((List.range i).map U) ∧ NewV w4.heap.size 30 wr (.slice (some ⟨gl, 0, none⟩) 10 cl_) ((List.range 10).map V) ∧ Below w4.heap.size w4 wr ∧ Below w.heap.size w wr ∧ S ≤ wr.heap.size) (fun _ t _ => 10 - (intOf t).toNat)
              case atStart => exact ⟨0, V, by omega, rfl, fm0, fun _ _ => rfl, .nil _ _ _, rw0, hF, hB2, hSw⟩
              case round =>
                clear fm0 rw0 hF hB2 hSw
                obtain ⟨i, U, hi, rfl, fm, hUV, hM, hR, hF, hB2, hSw⟩ := hrel
                obtain ⟨amo, cmo, rfl⟩ := hM.sl
                rw [List.length_map, List.length_range] at hM ⊢
                by_cases hlt : i < 10
                · have hd : decide ((i : Int) < 10) = true := decide_eq_true (by omega)
                  have hi10 : (i : Int) < 10 := by omega
                  obtain ⟨_, e, cell⟩ := hR.place hlt
                  cases e
                  obtain ⟨ai, ci, hVi, _, _⟩ := (fm.ext i hlt).sa
                  rw [hVi] at cell
                  obtain ⟨us, hus⟩ : ∃ us, us = (List.range i).map U := ⟨_, rfl⟩
                  rw [← hus] at hM
                  have HUS := Lib.hid hus
                  have lus : Hid (us.length = i) := Lib.hid (by rw [hus]; simp)
                  obtain ⟨w15, rfl⟩ : ∃ x, x = wr := ⟨_, rfl⟩
                  clear hus
                  go_wp2_with fail
                  go_loopw [31, 32] (fun v t wr => ∃ (k : Nat) (U2 : Nat → Value), k ≤ 150 ∧ t = .int .i64 (k : Int) ∧ v = U2 i ∧ Fam S w4.heap.size .u32 52 wr 10 V U2 A2 (growF (fun j => 5000 + (j : Int)) 150 i k) ∧ (∀ j, i < j → U2 j = V j) ∧ (∀ j, j < i → U2 j = U j) ∧ NewV S 30 wr (.slice amo i cmo) us ∧ NewV w4.heap.size 30 wr (.slice (some ⟨gl, 0, none⟩) 10 cl_) ((List.range 10).map V) ∧ Below w4.heap.size w4 wr ∧ Below w.heap.size w wr ∧ S ≤ wr.heap.size) (fun _ t _ => 150 - (intOf t).toNat)
                  case atStart => exact ⟨0, U, by omega, rfl, by rw [hUV i (Nat.le_refl _), hVi], fm, fun j hj => hUV j (by omega), fun _ _ => rfl, hM, hR, hF, hB2, hSw⟩
                  case round =>
                    clear fm hM hR hF hB2 hSw cell
                    obtain ⟨k, U2, hk, rfl, rfl, fm, hUV2, hUU, hM, hR, hF, hB2, hSw⟩ := hrel
                    have ex := fm.ext i hlt
                    obtain ⟨av, cv, hv, _⟩ := ex.nx.sl
                    rw [growF_at] at hv
                    obtain ⟨lv, hlv⟩ : ∃ x, x = (A2 i ++ List.replicate k (5000 + (i : Int))).length := ⟨_, rfl⟩
                    rw [← hlv] at hv
                    have lvb : lv ≤ 278 := by rw [hlv, List.length_append, List.length_replicate]; have := lA2.out i hlt; omega
                    rw [hv]
                    have HLV := Lib.hid hlv
                    have HVV := Lib.hid hv
                    clear hv hlv
                    by_cases hkl : k < 150
                    · have hd : decide ((k : Int) < 150) = true := decide_eq_true (by omega)
                      have al := (Below.refl wr.heap.size wr).alloc (Nat.le_refl _) (.cells #[.int .u32 (5000 + (i : Int))] 52)
                      have as1 : (wr.alloc (.cells #[.int .u32 (5000 + (i : Int))] 52)).heap.size = wr.heap.size + 1 := by simp
                      have fm1 := fm.keep al
                      have hM1 := hM.keep al
                      have hR1 := hR.keep al
                      have hF1 := hF.trans (al.mono hF.size)
                      have hB1 := hB2.trans (al.mono hB2.size)
                      have nx := (fm1.ext i hlt).nx
                      rw [growF_at, HVV.out] at nx
                      have hlen : (A2 i ++ List.replicate k (5000 + (i : Int))).length ≤ 278 := by rw [← HLV.out]; exact lvb
                      clear fm hM hR hF hB2 ex
                      go_wp2_with (at_builtin; refine wpList_append_keep _ rfl _ _ 30 rfl w4.heap.size 52 .u32 4 Try.underlying30 info32 _ _ rfl nx _ _ 1 [5000 + (i : Int)] rfl rfl (cells_one _ _ _ _ _ rfl) (by simp only [List.length_singleton]; omega) (by simp only [List.length_singleton]; omega) (by rw [as1]; omega) ?_)
                      intro u' w16 n1 n0 hg16 ho16
                      have fm16 := fm1.append hlt (u' := u') (ys := [5000 + (i : Int)]) (by rw [growF_at, List.append_assoc]; exact n1) (by rw [growF_at, HVV.out]; exact n0) (by rw [HVV.out]; exact hg16) (by rw [HVV.out, as1]; exact ho16) (by rw [as1]; omega)
                      have fm17 := fm16.congr (U' := fun m => if m = i then u' else U2 m) (A' := A2) (X' := growF (fun j => 5000 + (j : Int)) 150 i (k + 1)) (fun _ _ => rfl) (fun j _ => growF_step (fun j => 5000 + (j : Int)) 150 i k j) (fun _ _ => rfl)
                      have hM16 := hM1.keptN nx (by decide) hg16
                      have hR16 := hR1.keptN nx (by decide) hg16
                      have hF16 := hF1.grown hg16 hF1.size (fun g hg => (nx.lt g hg).1)
                      have hB16 := hB1.grown hg16 hB1.size (fun g hg => by have := (nx.lt g hg).1; omega)
                      have hz16 := hg16.size
                      clear fm1 fm16 hM1 hR1 hF1 hB1 nx n1 n0 hg16 ho16 al
                      go_wp2_with fail
                      go_roundw
                      case rel =>
                        exact ⟨k + 1, fun m => if m = i then u' else U2 m, by omega, by go_num, by simp, fm17, fun j hj => by simp only [show ¬ j = i by omega, if_false]; exact hUV2 j hj, fun j hj => by simp only [show ¬ j = i by omega, if_false]; exact hUU j hj, hM16, hR16, hF16, hB16, by omega⟩
                      case measure => simp [intOf]; omega
                    · obtain rfl : k = 150 := by omega
                      rw [show ((150 : Nat) : Int) = 150 from rfl]
                      have hd : decide ((150 : Int) < 150) = false := by decide
                      have fm2 := fm.congr (U' := U2) (A' := A2) (X' := growF (fun j => 5000 + (j : Int)) 150 (i + 1) 0) (fun _ _ => rfl) (fun j _ => growF_next _ _ i j) (fun _ _ => rfl)
                      have al := (Below.refl wr.heap.size wr).alloc (Nat.le_refl _) (.cells #[.slice av lv cv] 30)
                      have as1 : (wr.alloc (.cells #[.slice av lv cv] 30)).heap.size = wr.heap.size + 1 := by simp
                      have fm3 := fm2.keep al
                      have hM3 := hM.keep al
                      have hR3 := hR.keep al
                      have hF3 := hF.trans (al.mono hF.size)
                      have hB3 := hB2.trans (al.mono hB2.size)
                      clear fm fm2 hM hR hF hB2 ex hkl
                      go_wp2_with (at_builtin; refine wpList_append_newV _ rfl _ _ 56 rfl S 30 24 Try.underlying56 infoN _ us rfl hM3 _ 1 (.slice av lv cv) ⟨_, _, _, rfl⟩ rfl (cell_new1 _ _ _ _) (by rw [lus.out]; omega) (by rw [lus.out]; omega) (by rw [as1]; omega) ?_)
                      intro mo' w17 hM17 hg17 ho17
                      have hMl : ∀ g, (Value.slice amo i cmo).ownBlock = some g → S ≤ g := fun g hg => (hM3.lt g hg).1
                      have fm17 := fm3.grown hg17 (fun j hj g hg e => by
                        have h1 := ((fm3.ext j hj).old g hg).1
                        have h2 := hMl g e.symm
                        omega) (fun j hj g hg => hM3.aside' (fm3.ext j hj).nx (by decide) g hg)
                      have hR17 := hR3.kept hg17 (.inr fun e => by
                        have h2 := hMl gl (e.symm.trans rfl)
                        omega)
                      have hF17 := hF3.grown hg17 hF3.size (fun g hg => Nat.le_trans hwS (hMl g hg))
                      have hB17 := hB3.grown hg17 hB3.size (fun g hg => Nat.le_trans hwF (Nat.le_trans hwS (hMl g hg)))
                      have hz17 := hg17.size
                      have el : us ++ [Value.slice av lv cv] = (List.range (i + 1)).map U2 := by
                        rw [range_push (V := U) (V' := U2) (v := .slice av lv cv) hUU HVV.out, ← HUS.out]
                      rw [el] at hM17
                      clear fm3 hM3 hR3 hF3 hB3 hg17 al
                      go_wp2_with fail
                      go_roundw
                      case rel => exact ⟨i + 1, U2, by omega, by go_num, fm17, fun j hj => hUV2 j (by omega), hM17, hR17, hF17, hB17, by omega⟩
                      case measure => simp [intOf]; omega
                · have hd : decide ((i : Int) < 10) = false := decide_eq_false (by omega)
                  obtain rfl : i = 10 := by omega
                  rw [show ((10 : Nat) : Int) = 10 from rfl]
                  clear hd
                  have hd : decide ((10 : Int) < 10) = false := by decide
                  obtain ⟨w18, rfl⟩ : ∃ x, x = wr := ⟨_, rfl⟩
                  obtain ⟨gm, rfl, _⟩ := hM.place (show 0 < 10 by omega)
                  have FM := Lib.hid fm
                  have ROWL : Hid (∀ i, i < 10 → w18.cell? ⟨gl, i, none⟩ = some (V i)) := Lib.hid fun i hi => by
                    obtain ⟨_, e, c⟩ := hR.place hi
                    cases e
                    exact c
                  have ROWM : Hid (∀ i, i < 10 → w18.cell? ⟨gm, i, none⟩ = some (U i)) := Lib.hid fun i hi => by
                    obtain ⟨_, e, c⟩ := hM.place hi
                    cases e
                    exact c
                  clear fm hM hR hUV
                  go_wp2_with fail
                  go_loopw [33] (fun t wr => ∃ i : Nat, i ≤ 10 ∧ t = .int .i64 (i : Int) ∧ Dr w18 wr) (fun t _ => 10 - (intOf t).toNat)
                  case atStart => exact ⟨0, by omega, rfl, .refl _⟩
                  case round =>
                    obtain ⟨i, hi, rfl, nd, rfl⟩ := hrel
                    by_cases hlt : i < 10
                    · have hd : decide ((i : Int) < 10) = true := decide_eq_true (by omega)
                      have hi10 : (i : Int) < 10 := by omega
                      obtain ⟨ai, ci, hVi, sV, -⟩ := (FM.out.ext i hlt).sa
                      obtain ⟨au, cu, hUi, sU, -⟩ := (FM.out.ext i hlt).nx.at_own
                      obtain ⟨li, hli⟩ : ∃ z, z = (A i).length := ⟨_, rfl⟩
                      have eA2 : A2 i = List.replicate li (1000 + (i : Int)) := by rw [HA2.out, hli]
                      have eX : growF (fun j => 5000 + (j : Int)) 150 10 0 i = List.replicate 150 (5000 + (i : Int)) := by unfold growF; rw [if_pos hlt]
                      have lib : li ≤ 128 := by have := lA2.out i hlt; rw [eA2, List.length_replicate] at this; exact this
                      rw [eA2, eX, List.length_append, List.length_replicate, List.length_replicate] at hUi
                      rw [eA2, eX] at sU
                      rw [eA2] at sV
                      rw [eA2, List.length_replicate] at hVi
                      have cL := ROWL.out i hlt
                      have cM := ROWM.out i hlt
                      rw [hVi] at cL
                      rw [hUi] at cM
                      have SV := Lib.hid sV
                      have SU := Lib.hid sU
                      clear hVi hUi hli eA2 eX sV sU
                      go_wp2_with fail
                      go_loopw [34] (fun t wr => ∃ k : Nat, k ≤ li + 150 ∧ t = .int .i64 (k : Int) ∧ Dr w18 wr) (fun t _ => li + 150 - (intOf t).toNat)
                      case atStart => exact ⟨0, by omega, rfl, nd, rfl⟩
                      case round =>
                        obtain ⟨k, hk, rfl, nd2, rfl⟩ := hrel
                        by_cases hkl : k < li + 150
                        · have hdk : decide ((k : Int) < ((li + 150 : Nat) : Int)) = true := decide_eq_true (by omega)
                          obtain ⟨bu, ou, rfl, hcu⟩ := SU.out.cells (by rw [List.length_append, List.length_replicate, List.length_replicate]; omega)
                          have cU := hcu k (by rw [List.length_append, List.length_replicate, List.length_replicate]; omega)
                          by_cases hkk : k < li
                          · obtain ⟨bv, ov, rfl, hcv⟩ := SV.out.cells (by rw [List.length_replicate]; omega)
                            have cV := hcv k (by rw [List.length_replicate]; omega)
                            rw [grown_lo hkk] at cU
                            rw [rep_nth hkk] at cV
                            have hkz : (k : Int) < (li : Int) := by omega
                            have hd2 : decide ((k : Int) < (li : Int)) = true := decide_eq_true hkz
                            have hd3 : decide ((li : Int) ≤ (k : Int)) = false := decide_eq_false (by omega)
                            have hd4 : decide (li ≤ k) = false := decide_eq_false (by omega)
                            have hn1 : ¬ li ≤ k := by omega
                            have hn2 : ¬ (li : Int) ≤ (k : Int) := by omega
                            have hg1 : ((k : Int) ≥ (li : Int)) = False := eq_false (by omega)
                            clear hcu hcv
                            go_wp2_with fail
                            go_quiet (fail)
                            go_wp2_with fail
                            go_roundw
                            case rel => exact ⟨k + 1, by omega, by go_num, (by repeat (first | exact Dr.refl _ | apply Dr.drewN))⟩
                            case measure => simp [intOf]; omega
                          · rw [grown_hi (by omega) (by omega)] at cU
                            have hkz : ¬ (k : Int) < (li : Int) := by omega
                            have hd2 : decide ((k : Int) < (li : Int)) = false := decide_eq_false hkz
                            have hd3 : decide ((li : Int) ≤ (k : Int)) = true := decide_eq_true (by omega)
                            clear hcu
                            go_wp2_with fail
                            go_quiet (fail)
                            go_wp2_with fail
                            go_roundw
                            case rel => exact ⟨k + 1, by omega, by go_num, (by repeat (first | exact Dr.refl _ | apply Dr.drewN))⟩
                            case measure => simp [intOf]; omega
                        · obtain rfl : k = li + 150 := by omega
                          have hdk : decide (((li + 150 : Nat) : Int) < ((li + 150 : Nat) : Int)) = false := by simp
                          go_wp2_with fail
                          go_roundw
                          case rel => exact ⟨i + 1, by omega, by go_num, (by repeat (first | exact Dr.refl _ | apply Dr.drewN))⟩
                          case measure => simp [intOf]; omega
                    · have hd : decide ((i : Int) < 10) = false := decide_eq_false (by omega)
                      obtain rfl : i = 10 := by omega
                      rw [show ((10 : Nat) : Int) = 10 from rfl]
                      clear hd
                      have hd : decide ((10 : Int) < 10) = false := by decide
                      have p1 := fun W h1 h2 => spr za xa gA aa pa W HA.out za1 ua h1 sa0 h2
                      have p2 := fun W h1 h2 => spr zb xb gB ab pb W HB.out zb1 ub h1 sb0 h2
                      have p3 := fun W h1 h2 => spr zm xm gM am pm W HM.out zm1 um h1 sm0 h2
                      clear spr
                      have q1 := p1 (w18.drewN nd) (by apply Blk.below pA ?_ pA.lt; exact (below_drewN hF nd)) (below_drewN hB2 nd)
                      rw [← HVA.out] at q1
                      go_wp2_with fail
                      refine q1.mono ?_; rintro e_ w19 ⟨rfl, hd19⟩
                      have b19 := hd19.b
                      have hF19 := (below_drewN hF nd).trans (b19.mono (below_drewN hF nd).size)
                      have hB19 := (below_drewN hB2 nd).trans (b19.mono (below_drewN hB2 nd).size)
                      have q2 := p2 w19 (pB.below hF19 pB.lt) hB19
                      rw [← HVB.out] at q2
                      clear q1 p1 p2 hF hB2 hd19
                      go_wp2_with fail
                      refine q2.mono ?_; rintro e_ w20 ⟨rfl, hd20⟩
                      have b20 := hd20.b
                      have hF20 := hF19.trans (b20.mono hF19.size)
                      have hB20 := hB19.trans (b20.mono hB19.size)
                      have q3 := p3 w20 (pM.below hF20 pM.lt) hB20
                      rw [← HVM.out] at q3
                      clear q2 p3 hF19 hB19 hd20 b19 b20
                      go_wp2_with fail
                      refine q3.mono ?_; rintro e_ w21 ⟨rfl, hd21⟩
                      have hB21 := hB20.trans (hd21.b.mono hB20.size)
                      go_wp2_with fail
                      go_ret
                      exact ⟨rfl, hB21⟩
end Go.Proofs.Ytadldaidbcdaeaa
