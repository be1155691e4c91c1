/- signetlaw4.ShaSpares by its contract. (Printed by gen_shaspares.py.) -/
import Derived.Test.YtiookhggbloccaaDoorSpareT
import Derived.Test.YtiookhggbloccaaDoorSixN
set_option linter.unusedVariables false
set_option linter.unusedSimpArgs false
namespace Go.Proofs.YtiookhggbloccaaDoor
open Go.RowKit Go.Sg

set_option maxHeartbeats 2000000 in
set_option maxRecDepth 20000 in
theorem ShaSpares_no (h : Int) (hh : ¬ IsHash h) (a a' : Option Addr) (cap cap' l m : Nat) (w : World) (ht : ShaTabs w) :
    Calls Tryd.prog 3 #[.int .i64 h, .slice a l cap, .slice a' m cap'] w (TellPost true w) := by
  have hn : shaSize h = 0 := by unfold shaSize; rw [if_neg (fun e => hh (.inl e)), if_neg (fun e => hh (.inr (.inl e))), if_neg (fun e => hh (.inr (.inr e)))]
  go_enter Tryd.func3, Tryd.ntmps3
  go_wp2_with fail
  refine (awake_c w ht).mono ?_; rintro e w1 ⟨rfl, hb⟩
  go_wp2_with fail
  refine (New_no h hh w1).mono ?_; rintro e w2 ⟨rfl, hb2⟩
  have hB2 := hb.trans (hb2.mono hb.size)
  go_wp2_with fail
  refine (New_no h hh w2).mono ?_; rintro e w3 ⟨rfl, hb3⟩
  have hB3 := hB2.trans (hb3.mono hB2.size)
  have sc := Size_c h w3
  rw [hn] at sc
  clear hn hb hb2 hB2 hb3
  go_wp2_with fail
  refine sc.mono ?_; rintro e w4 ⟨rfl, rfl⟩
  clear sc
  go_wp2_with fail
  go_ret
  exact ⟨rfl, hB3⟩

set_option maxHeartbeats 16000000 in
set_option maxRecDepth 20000 in
theorem ShaSpares_c (h : Int) (a a' : Option Addr) (cap cap' : Nat) (d s : List Int) (w : World) (hx : Sl .u8 w a cap d) (ux : U8 d) (hy : Sl .u8 w a' cap' s) (uy : U8 s) (hz : d.length + s.length ≤ 1048576) (ht : ShaTabs w) :
    Calls Tryd.prog 3 #[.int .i64 h, .slice a d.length cap, .slice a' s.length cap'] w (TellPost true w) := by
  by_cases hh : IsHash h
  case neg => exact ShaSpares_no h hh a a' cap cap' d.length s.length w ht
  have tw := fun W (sx : Sl .u8 W a cap d) (t : ShaTabs W) => twice_c h hh a cap d W sx ux (by omega) t
  have sc := fun W (sx : Sl .u8 W a cap d) (t : ShaTabs W) => Sum1_c h a cap d W sx ux (by omega) t
  have wc := fun g W (hs : ShaSt W g h []) (hg : w.heap.size ≤ g) (sx : Sl .u8 W a cap d) (t : ShaTabs W) => Write_c g h [] a cap d W hs sx ux (hx.apart hg) t
  have wc' := fun g W (hs : ShaSt W g h []) (hg : w.heap.size ≤ g) (sx : Sl .u8 W a' cap' s) (t : ShaTabs W) => Write_c g h [] a' cap' s W hs sx uy (hy.apart hg) t
  have ss := fun g W (hs : ShaSt W g h d) (t : ShaTabs W) => StSum_c g h d W hs (by omega) t
  have ss' := fun g W (hs : ShaSt W g h s) (t : ShaTabs W) => StSum_c g h s W hs (by omega) t
  obtain ⟨l, hl⟩ : ∃ l, l = d.length := ⟨_, rfl⟩
  obtain ⟨m, hm⟩ : ∃ m, m = s.length := ⟨_, rfl⟩
  obtain ⟨A, hA⟩ : ∃ A, A = sha h d := ⟨_, rfl⟩
  obtain ⟨B, hB⟩ : ∃ B, B = sha h s := ⟨_, rfl⟩
  obtain ⟨n, hn⟩ : ∃ n, n = shaSize h := ⟨_, rfl⟩
  have n0 : 0 < n := by rw [hn]; rcases hh with rfl | rfl | rfl <;> simp [shaSize]
  have n64 : n ≤ 64 := by rw [hn]; exact shaSize_le h
  have LA : Hid (A.length = n) := Lib.hid (by rw [hA, hn, sha_len])
  have LB : Hid (B.length = n) := Lib.hid (by rw [hB, hn, sha_len])
  have uA : U8 A := by rw [hA]; exact sha_u8 _ _
  have uB : U8 B := by rw [hB]; exact sha_u8 _ _
  unfold SumPost at ss ss'
  unfold BytesPost at sc
  simp only [← hA, ← hB] at ss ss' sc
  simp only [List.nil_append] at wc wc'
  simp only [← hl, ← hm] at tw sc wc wc'
  rw [← hl, ← hm]
  have hNew := New_c h hh
  clear hl hm hA hB hn hz hh
  go_enter Tryd.func3, Tryd.ntmps3
  have hB := Below.refl w.heap.size w
  go_wp2_with fail
  refine (awake_c w ht).mono ?_; rintro e w1 ⟨rfl, hb⟩
  replace hB := hB.trans (hb.mono hB.size)
  clear hb
  have sz0 := hB.size
  go_wp2_with fail
  refine (hNew _ (ht.below hB)).mono ?_; rintro e w2 ⟨gS, rfl, bS, hS, hb⟩
  have zs2 := hb.size
  replace hB := hB.trans (hb.mono hB.size)
  clear hb
  have ltS := hS.lt
  go_wp2_with fail
  refine (hNew _ (ht.below hB)).mono ?_; rintro e w3 ⟨gT, rfl, bT, hT, hb⟩
  have zs3 := hb.size
  replace hS := hS.keep hb
  replace hB := hB.trans (hb.mono hB.size)
  clear hb
  have ltT := hT.lt
  clear hNew
  go_wp2_with fail
  refine (tw _ (hx.below hB) (ht.below hB)).mono ?_; rintro e w4 ⟨rfl, hb⟩
  have zs4 := hb.size
  replace hS := hS.keep hb
  replace hT := hT.keep hb
  replace hB := hB.trans (hb.mono hB.size)
  clear hb
  clear tw
  go_wp2_with fail
  refine (wc gS _ hS (by omega) (hx.below hB) (ht.below hB)).mono ?_; rintro e w5 ⟨rfl, hS, hg⟩
  replace hT := hT.grown hg (by simp; omega)
  have zs5 := hg.size
  replace hB := below_then hB hg (by omega) hB.size
  clear hg wc
  go_wp2_with fail
  refine (wc' gT _ hT (by omega) (hy.below hB) (ht.below hB)).mono ?_; rintro e w6 ⟨rfl, hT, hg⟩
  replace hS := hS.grown hg (by simp; omega)
  have zs6 := hg.size
  replace hB := below_then hB hg (by omega) hB.size
  clear hg wc'
  go_wp2_with fail
  refine (ss gS _ hS (ht.below hB)).mono ?_; rintro e w7 ⟨vX, rfl, nX, hb⟩
  have zs7 := hb.size
  replace hS := hS.keep hb
  replace hT := hT.keep hb
  replace hB := hB.trans (hb.mono hB.size)
  clear hb
  obtain ⟨gX, cX, rfl, bX, pX⟩ := nX.pre (by rw [LA.out]; omega)
  rw [LA.out]
  have ltX := pX.lt
  clear nX
  go_wp2_with fail
  refine (ss gS _ hS (ht.below hB)).mono ?_; rintro e w8 ⟨vY, rfl, nY, hb⟩
  have zs8 := hb.size
  replace hS := hS.keep hb
  replace hT := hT.keep hb
  replace pX := pX.keep hb
  replace hB := hB.trans (hb.mono hB.size)
  clear hb
  obtain ⟨gY, cY, rfl, bY, pY⟩ := nY.pre (by rw [LA.out]; omega)
  rw [LA.out]
  have ltY := pY.lt
  clear nY
  go_wp2_with fail
  refine (ss' gT _ hT (ht.below hB)).mono ?_; rintro e w9 ⟨vZ, rfl, nZ, hb⟩
  have zs9 := hb.size
  replace hS := hS.keep hb
  replace hT := hT.keep hb
  replace pX := pX.keep hb
  replace pY := pY.keep hb
  replace hB := hB.trans (hb.mono hB.size)
  clear hb
  obtain ⟨gZ, cZ, rfl, bZ, pZ⟩ := nZ.pre (by rw [LB.out]; omega)
  rw [LB.out]
  have ltZ := pZ.lt
  clear nZ
  have rc := roomy_c (some ⟨gY, 0, none⟩) cY A _ pY.sl (by rw [LA.out]; omega)
  unfold RoomPost at rc
  rw [LA.out] at rc
  go_wp2_with fail
  refine (rc).mono ?_; rintro e w10 ⟨gU, rfl, bU, kU, hb⟩
  have zs10 := hb.size
  replace hS := hS.keep hb
  replace hT := hT.keep hb
  replace pX := pX.keep hb
  replace pY := pY.keep hb
  replace pZ := pZ.keep hb
  replace hB := hB.trans (hb.mono hB.size)
  clear hb
  clear rc
  have ltU := kU.lt
  have rc := roomy_c (some ⟨gZ, 0, none⟩) cZ B _ pZ.sl (by rw [LB.out]; omega)
  unfold RoomPost at rc
  rw [LB.out] at rc
  go_wp2_with fail
  refine (rc).mono ?_; rintro e w11 ⟨gV, rfl, bV, kV, hb⟩
  have zs11 := hb.size
  replace hS := hS.keep hb
  replace hT := hT.keep hb
  replace pX := pX.keep hb
  replace pY := pY.keep hb
  replace pZ := pZ.keep hb
  replace kU := kU.below hb kU.lt
  replace hB := hB.trans (hb.mono hB.size)
  clear hb
  clear rc
  have ltV := kV.lt
  obtain ⟨S, hS0⟩ : ∃ S, S = w11.heap.size := ⟨_, rfl⟩
  have chain : gS < gT ∧ gT < gX ∧ gX < gY ∧ gY < gZ ∧ gZ < gU ∧ gU < gV ∧ gV < S := by omega
  have bX2 : w.heap.size ≤ gX := by omega
  have bS2 : w.heap.size ≤ S := by omega
  have S0 : S ≤ w11.heap.size := by omega
  obtain ⟨i1, i2, i3, i4, i5, i6, i7⟩ := chain
  obtain ⟨Q, hQ⟩ : ∃ Q : World → Prop, Q = fun W => ShaSt W gS h d ∧ ShaSt W gT h s ∧ Pre W gY .u8 5 cY A ∧ Pre W gZ .u8 5 cZ B ∧ Blk W gU .u8 5 (A ++ m9) ∧ Blk W gV .u8 5 (B ++ m9) := ⟨_, rfl⟩
  have qg : ∀ W W' row, Q W → W.grownBy W' row → (∀ g, row = some g → g = gX ∨ S ≤ g) → Q W' := by
    rw [hQ]
    rintro W W' row ⟨h1, h2, h3, h4, h5, h6⟩ hg hr
    have ne : ∀ g, g ≠ gX → g < S → some g ≠ row := fun g h1 h2 e => by
      have := hr g e.symm
      omega
    exact ⟨h1.grown hg (ne _ (by omega) (by omega)), h2.grown hg (ne _ (by omega) (by omega)), h3.grown hg (ne _ (by omega) (by omega)), h4.grown hg (ne _ (by omega) (by omega)), h5.grown hg (ne _ (by omega) (by omega)), h6.grown hg (ne _ (by omega) (by omega))⟩
  have hq : Q w11 := by rw [hQ]; exact ⟨hS, hT, pY, pZ, kU, kV⟩
  have HQ := Lib.hid hQ
  clear hQ hS hT pY pZ kU kV hS0 zs2 zs3 zs4 zs5 zs6 zs7 zs8 zs9 zs10 zs11 bS bT bX bY bZ bU bV ltS ltT ltX ltY ltZ ltU ltV
  go_wp2_with fail
  go_loopw [14] (fun t wr => ∃ (i : Nat) (z : List Int), i ≤ n ∧ t = .int .i64 (i : Int) ∧ z.length = n ∧ z.take i = List.replicate i 77 ∧ Pre wr gX .u8 5 cX z ∧ Q wr ∧ Below w.heap.size w wr ∧ S ≤ wr.heap.size) (fun t _ => n - (intOf t).toNat)
  case atStart => exact ⟨0, A, by omega, rfl, LA.out, rfl, pX, hq, hB, S0⟩
  case round =>
    clear pX hq hB S0
    obtain ⟨i, z, hi, rfl, hzl, hzt, pX, hq, hB, S0⟩ := hrel
    have ZL := Lib.hid hzl
    have ZT := Lib.hid hzt
    clear hzl hzt
    by_cases hlt : i < n
    · have c1 := pX.cell i (by rw [ZL.out]; exact hlt)
      have f1 := pX.free i
      have p2 := pX.set i 77
      have hg2 := grownBy_set wr ⟨gX, i, none⟩ (.int .u8 77)
      have q2 := qg _ _ _ hq hg2 (fun g e => .inl (Option.some.inj e).symm)
      have hB2 := hB.setCell (p := ⟨gX, i, none⟩) bX2 (.int .u8 77)
      have ll : Hid ((z.set i 77).length = n) := Lib.hid (by rw [List.length_set, ZL.out])
      have lt : Hid ((z.set i 77).take (i + 1) = List.replicate (i + 1) 77) := Lib.hid (rep_set ZL.out hlt ZT.out)
      have hin : (i : Int) < (n : Int) := by omega
      have hd1 : decide ((i : Int) < (n : Int)) = true := decide_eq_true hin
      have hs2 : S ≤ (wr.setCell ⟨gX, i, none⟩ (.int .u8 77)).heap.size := by simpa using S0
      clear pX hq hB hg2
      go_wp2_with fail
      go_roundw
      case rel => exact ⟨i + 1, _, by omega, by go_num, ll.out, lt.out, p2, q2, hB2, hs2⟩
      case measure => simp [intOf]; omega
    · obtain rfl : n = i := by omega
      have hd1 : decide ((n : Int) < (n : Int)) = false := by simp
      have zr := rep_all ZL.out ZT.out
      rw [zr] at pX
      obtain ⟨S2, hS2⟩ : ∃ S2, S2 = wr.heap.size := ⟨_, rfl⟩
      have nX := pX.new bX2
      rw [List.length_replicate] at nX
      have ex := Ext.start nX (Nat.le_of_eq hS2.symm)
      have S21 : S ≤ S2 := by omega
      have S22 : S2 ≤ wr.heap.size := by omega
      clear zr hd1 ZL ZT hlt hi pX nX hS2 S0
      go_wp2_with fail
      go_loopw [15, 16] (fun x t wr => ∃ (j : Nat), j ≤ 80 ∧ t = .int .i64 (j : Int) ∧ Ext S2 w.heap.size 5 wr (some ⟨gX, 0, none⟩) cX (List.replicate n 77) x (List.replicate j 78) ∧ Q wr ∧ Below w.heap.size w wr ∧ S2 ≤ wr.heap.size) (fun _ t _ => 80 - (intOf t).toNat)
      case atStart => exact ⟨0, by omega, rfl, ex, hq, hB, S22⟩
      case round =>
        clear ex hq hB S22
        obtain ⟨j, hj, rfl, ex, hq, hB, S22⟩ := hrel
        by_cases hlt : j < 80
        · have hd1 : decide ((j : Int) < 80) = true := decide_eq_true (by omega)
          have hws := hB.size
          have al := (Below.refl wr.heap.size wr).alloc (Nat.le_refl _) (.cells #[.int .u8 78] 5)
          have ga := World.grownBy_alloc wr (.cells #[.int .u8 78] 5) none
          have ex1 := ex.below al
          have q1 := qg _ _ _ hq ga (fun g e => by simp at e)
          have hB1 := hB.trans (al.mono hws)
          have as1 : (wr.alloc (.cells #[.int .u8 78] 5)).heap.size = wr.heap.size + 1 := by simp
          go_wp2_with (at_builtin; refine wpList_append_keep _ rfl _ _ 23 rfl w.heap.size 5 .u8 1 Tryd.underlying23 info8s _ _ rfl ex1.nx _ _ 1 [78] rfl rfl (cells_one _ _ _ _ _ rfl) (by simp; omega) (by simp; omega) (by rw [as1]; omega) ?_)
          intro x' w3 n1 n0 hg3 ho3
          have ex3 := ex1.append (ys := [78]) (by first | exact n1 | (rw [List.append_assoc]; exact n1)) n0 hg3 (by rw [as1]; exact ho3) (by rw [as1]; omega)
          have hz3 := hg3.size
          have q3 := qg _ _ _ q1 hg3 (fun g e => by
            rcases ex.own g e with h1 | h1
            · have h2 := Option.some.inj h1
              simp only [Addr.mk.injEq] at h2
              exact .inl h2.1.symm
            · exact .inr (by omega))
          have hB3 := hB1.grown hg3 (by rw [as1]; omega) (fun g hg => (ex1.nx.lt g hg).1)
          have S3 : S2 ≤ w3.heap.size := by omega
          have rA : Hid (List.replicate j (78 : Int) ++ [78] = List.replicate (j + 1) 78) := Lib.hid List.replicate_succ'.symm
          rw [rA.out] at ex3
          clear ex hq hB ex1 q1 hB1 hg3 ho3 n1 n0 al ga as1 rA
          go_wp2_with fail
          go_roundw
          case rel => exact ⟨j + 1, by omega, by go_num, ex3, q3, hB3, S3⟩
          case measure => simp [intOf]; omega
        · obtain rfl : j = 80 := by omega
          have hd1 : decide ((80 : Int) < 80) = false := by simp
          obtain ⟨XL, hXL⟩ : ∃ X, X = List.replicate n (77 : Int) ++ List.replicate 80 78 := ⟨_, rfl⟩
          obtain ⟨A77, hA77⟩ : ∃ X, X = List.replicate n (77 : Int) := ⟨_, rfl⟩
          have nX := ex.nx
          have sA := ex.sa
          rw [← hXL] at nX
          rw [← hA77] at sA
          have lX : Hid (XL.length = n + 80) := Lib.hid (by rw [hXL]; simp)
          have lA : Hid (A77.length = n) := Lib.hid (by rw [hA77]; simp)
          obtain ⟨gM, cM, rfl, bM, pM⟩ := nX.pre (by rw [lX.out]; omega)
          have qA : Hid (∀ k, k < n → nth A77 k = 77) := Lib.hid fun k hk => by rw [hA77]; exact rep_nth hk
          have qX : Hid (∀ k, k < n → nth XL k = 77) := Lib.hid fun k hk => by rw [hXL]; exact grown_lo hk
          rw [lX.out]
          clear hXL hA77 nX ex
          obtain ⟨n80, hn80⟩ : ∃ x, x = n + 80 := ⟨_, rfl⟩
          rw [← hn80] at lX ⊢
          have N80 := Lib.hid hn80
          have n80b : n80 ≤ 144 := by omega
          have n80c : n ≤ n80 := by omega
          clear hn80
          go_wp2_with fail
          go_loopw [17] (fun t w3 => ∃ k : Nat, k ≤ n ∧ t = .int .i64 (k : Int) ∧ Dr wr w3) (fun t _ => n - (intOf t).toNat)
          case atStart => exact ⟨0, by omega, rfl, .refl _⟩
          case round =>
            obtain ⟨k, hk, rfl, nd, rfl⟩ := hrel
            by_cases hkl : k < n
            · have hd : decide ((k : Int) < (n : Int)) = true := decide_eq_true (by omega)
              have k1 : (k : Int) < (n : Int) := by omega
              have k2 : k < n80 := by omega
              have k3 : (k : Int) < (n80 : Int) := by omega
              obtain ⟨b1, o1, ea1, q1⟩ := sA.cells (by rw [lA.out]; omega)
              simp only [Option.some.injEq, Addr.mk.injEq, and_true] at ea1
              obtain ⟨rfl, rfl⟩ := ea1
              have c1 := q1 k (by rw [lA.out]; exact hkl)
              rw [Nat.zero_add] at c1
              have c2 := pM.cell k (by rw [lX.out]; exact k2)
              rw [qA.out k hkl] at c1
              rw [qX.out k hkl] at c2
              clear q1
              go_wp2_with fail
              go_roundw
              case rel => exact ⟨k + 1, by omega, by go_num, (by repeat (first | exact Dr.refl _ | apply Dr.drewN))⟩
              case measure => simp [intOf]; omega
            · obtain rfl : n = k := by omega
              have hd : decide ((n : Int) < (n : Int)) = false := by simp
              replace hB := below_drewN hB nd
              replace hq := qg _ _ _ hq (grownBy_drewN (World.grownBy_alloc wr (.cells #[] 0) none) 0 |> fun _ => (grownBy_drewN (row := none) ⟨rfl, rfl, rfl, Nat.le_refl _, fun _ _ _ => rfl⟩ nd)) (fun g e => by simp at e)
              have S5 : S ≤ (wr.drewN nd).heap.size := by simp; omega
              rw [HQ.out] at hq
              obtain ⟨hS, hT, pY, pZ, kU, kV⟩ := hq
              clear qg HQ sA pM lX lA qA qX hd N80 n80b n80c hkl hk bM hd1 hlt hj S22 S21
              have zs0 := hB.size
              have sU : Sl .u8 (wr.drewN nd) (some ⟨gU, 0, none⟩) (n + 9) A := by have := blk_sl kU (by rw [LA.out]; omega); rwa [LA.out] at this
              have cm := same4_c _ _ _ _ _ _ _ pY.sl sU uA uA
              rw [LA.out, show decide (A = A) = true from decide_eq_true rfl] at cm
              clear sU
              go_wp2_with fail
              refine (cm).mono ?_; rintro e w12 ⟨rfl, hb⟩
              have zs12 := hb.size
              replace hS := hS.keep hb
              replace hT := hT.keep hb
              replace pY := pY.keep hb
              replace pZ := pZ.keep hb
              replace kU := kU.below hb kU.lt
              replace kV := kV.below hb kV.lt
              replace hB := hB.trans (hb.mono hB.size)
              clear hb
              clear cm
              have sU : Sl .u8 w12 (some ⟨gV, 0, none⟩) (n + 9) B := by have := blk_sl kV (by rw [LB.out]; omega); rwa [LB.out] at this
              have cm := same4_c _ _ _ _ _ _ _ pZ.sl sU uB uB
              rw [LB.out, show decide (B = B) = true from decide_eq_true rfl] at cm
              clear sU
              go_wp2_with fail
              refine (cm).mono ?_; rintro e w13 ⟨rfl, hb⟩
              have zs13 := hb.size
              replace hS := hS.keep hb
              replace hT := hT.keep hb
              replace pY := pY.keep hb
              replace pZ := pZ.keep hb
              replace kU := kU.below hb kU.lt
              replace kV := kV.below hb kV.lt
              replace hB := hB.trans (hb.mono hB.size)
              clear hb
              clear cm
              go_wp2_with fail
              refine (ss gS _ hS (ht.below hB)).mono ?_; rintro e w14 ⟨vF, rfl, nF, hb⟩
              have zs14 := hb.size
              replace hS := hS.keep hb
              replace hT := hT.keep hb
              replace pY := pY.keep hb
              replace pZ := pZ.keep hb
              replace kU := kU.below hb kU.lt
              replace kV := kV.below hb kV.lt
              replace hB := hB.trans (hb.mono hB.size)
              clear hb
              obtain ⟨gF, cF, rfl, bF, pF⟩ := nF.pre (by rw [LA.out]; omega)
              rw [LA.out]
              have ltF := pF.lt
              clear nF
              go_wp2_with fail
              refine (sc _ (hx.below hB) (ht.below hB)).mono ?_; rintro e w15 ⟨vG, rfl, nG, hb⟩
              have zs15 := hb.size
              replace hS := hS.keep hb
              replace hT := hT.keep hb
              replace pY := pY.keep hb
              replace pZ := pZ.keep hb
              replace kU := kU.below hb kU.lt
              replace kV := kV.below hb kV.lt
              replace pF := pF.keep hb
              replace hB := hB.trans (hb.mono hB.size)
              clear hb
              obtain ⟨gG, cG, rfl, bG, pG⟩ := nG.pre (by rw [LA.out]; omega)
              rw [LA.out]
              have ltG := pG.lt
              clear nG
              go_wp2_with fail
              refine (ss' gT _ hT (ht.below hB)).mono ?_; rintro e w16 ⟨vH, rfl, nH, hb⟩
              have zs16 := hb.size
              replace hS := hS.keep hb
              replace hT := hT.keep hb
              replace pY := pY.keep hb
              replace pZ := pZ.keep hb
              replace kU := kU.below hb kU.lt
              replace kV := kV.below hb kV.lt
              replace pF := pF.keep hb
              replace pG := pG.keep hb
              replace hB := hB.trans (hb.mono hB.size)
              clear hb
              obtain ⟨gH, cH, rfl, bH, pH⟩ := nH.pre (by rw [LB.out]; omega)
              rw [LB.out]
              have ltH := pH.lt
              clear nH
              have sU : Sl .u8 w16 (some ⟨gU, 0, none⟩) (n + 9) A := by have := blk_sl kU (by rw [LA.out]; omega); rwa [LA.out] at this
              have cm := same4_c _ _ _ _ _ _ _ pY.sl sU uA uA
              rw [LA.out, show decide (A = A) = true from decide_eq_true rfl] at cm
              clear sU
              go_wp2_with fail
              refine (cm).mono ?_; rintro e w17 ⟨rfl, hb⟩
              have zs17 := hb.size
              replace hS := hS.keep hb
              replace hT := hT.keep hb
              replace pY := pY.keep hb
              replace pZ := pZ.keep hb
              replace kU := kU.below hb kU.lt
              replace kV := kV.below hb kV.lt
              replace pF := pF.keep hb
              replace pG := pG.keep hb
              replace pH := pH.keep hb
              replace hB := hB.trans (hb.mono hB.size)
              clear hb
              clear cm
              have sU : Sl .u8 w17 (some ⟨gV, 0, none⟩) (n + 9) B := by have := blk_sl kV (by rw [LB.out]; omega); rwa [LB.out] at this
              have cm := same4_c _ _ _ _ _ _ _ pZ.sl sU uB uB
              rw [LB.out, show decide (B = B) = true from decide_eq_true rfl] at cm
              clear sU
              go_wp2_with fail
              refine (cm).mono ?_; rintro e w18 ⟨rfl, hb⟩
              have zs18 := hb.size
              replace hS := hS.keep hb
              replace hT := hT.keep hb
              replace pY := pY.keep hb
              replace pZ := pZ.keep hb
              replace kU := kU.below hb kU.lt
              replace kV := kV.below hb kV.lt
              replace pF := pF.keep hb
              replace pG := pG.keep hb
              replace pH := pH.keep hb
              replace hB := hB.trans (hb.mono hB.size)
              clear hb
              clear cm
              have sU : Sl .u8 w18 (some ⟨gU, 0, none⟩) (n + 9) A := by have := blk_sl kU (by rw [LA.out]; omega); rwa [LA.out] at this
              have cm := same4_c _ _ _ _ _ _ _ pF.sl sU uA uA
              rw [LA.out, show decide (A = A) = true from decide_eq_true rfl] at cm
              clear sU
              go_wp2_with fail
              refine (cm).mono ?_; rintro e w19 ⟨rfl, hb⟩
              have zs19 := hb.size
              replace hS := hS.keep hb
              replace hT := hT.keep hb
              replace pY := pY.keep hb
              replace pZ := pZ.keep hb
              replace kU := kU.below hb kU.lt
              replace kV := kV.below hb kV.lt
              replace pF := pF.keep hb
              replace pG := pG.keep hb
              replace pH := pH.keep hb
              replace hB := hB.trans (hb.mono hB.size)
              clear hb
              clear cm
              have sU : Sl .u8 w19 (some ⟨gU, 0, none⟩) (n + 9) A := by have := blk_sl kU (by rw [LA.out]; omega); rwa [LA.out] at this
              have cm := same4_c _ _ _ _ _ _ _ pG.sl sU uA uA
              rw [LA.out, show decide (A = A) = true from decide_eq_true rfl] at cm
              clear sU
              go_wp2_with fail
              refine (cm).mono ?_; rintro e w20 ⟨rfl, hb⟩
              have zs20 := hb.size
              replace hS := hS.keep hb
              replace hT := hT.keep hb
              replace pY := pY.keep hb
              replace pZ := pZ.keep hb
              replace kU := kU.below hb kU.lt
              replace kV := kV.below hb kV.lt
              replace pF := pF.keep hb
              replace pG := pG.keep hb
              replace pH := pH.keep hb
              replace hB := hB.trans (hb.mono hB.size)
              clear hb
              clear cm
              have sU : Sl .u8 w20 (some ⟨gV, 0, none⟩) (n + 9) B := by have := blk_sl kV (by rw [LB.out]; omega); rwa [LB.out] at this
              have cm := same4_c _ _ _ _ _ _ _ pH.sl sU uB uB
              rw [LB.out, show decide (B = B) = true from decide_eq_true rfl] at cm
              clear sU
              go_wp2_with fail
              refine (cm).mono ?_; rintro e w21 ⟨rfl, hb⟩
              have zs21 := hb.size
              replace hS := hS.keep hb
              replace hT := hT.keep hb
              replace pY := pY.keep hb
              replace pZ := pZ.keep hb
              replace kU := kU.below hb kU.lt
              replace kV := kV.below hb kV.lt
              replace pF := pF.keep hb
              replace pG := pG.keep hb
              replace pH := pH.keep hb
              replace hB := hB.trans (hb.mono hB.size)
              clear hb
              clear cm
              go_wp2_with fail
              refine (sc _ (hx.below hB) (ht.below hB)).mono ?_; rintro e w22 ⟨vJ, rfl, nJ, hb⟩
              have zs22 := hb.size
              replace hS := hS.keep hb
              replace hT := hT.keep hb
              replace pY := pY.keep hb
              replace pZ := pZ.keep hb
              replace kU := kU.below hb kU.lt
              replace kV := kV.below hb kV.lt
              replace pF := pF.keep hb
              replace pG := pG.keep hb
              replace pH := pH.keep hb
              replace hB := hB.trans (hb.mono hB.size)
              clear hb
              obtain ⟨gJ, cJ, rfl, bJ, pJ⟩ := nJ.pre (by rw [LA.out]; omega)
              rw [LA.out]
              have ltJ := pJ.lt
              clear nJ
              obtain ⟨S9, hS9⟩ : ∃ S, S = w22.heap.size := ⟨_, rfl⟩
              have chain : gY < gZ ∧ gZ < gF ∧ gF < gG ∧ gG < gH ∧ gH < gJ ∧ gJ < S9 ∧ gU < gF ∧ gV < gF ∧ gZ < gU ∧ S ≤ S9 := by omega
              obtain ⟨j1, j2, j3, j4, j5, j6, j7, j8, j9, j10⟩ := chain
              have bY2 : w.heap.size ≤ gY := by omega
              have al := fun o => (Below.refl w22.heap.size w22).alloc (Nat.le_refl _) o
              have own := Own.six pY pF pG pJ pZ pH LA.out LA.out LA.out LA.out LB.out LB.out (by omega)
              have row := RowL.six w22 23 n gY gF gG gJ gZ gH cY cF cG cJ cZ cH S9 hS9
              rw [hS9] at row
              obtain ⟨G, hG⟩ : ∃ G, G = six gY gF gG gJ gZ gH := ⟨_, rfl⟩
              obtain ⟨K, hK⟩ : ∃ K, K = six cY cF cG cJ cZ cH := ⟨_, rfl⟩
              obtain ⟨Z0, hZ0⟩ : ∃ Z, Z = six A A A A B B := ⟨_, rfl⟩
              rw [← hG, ← hK, ← hZ0] at own
              rw [← hG, ← hK] at row
              have hlG : ∀ j, j < 6 → G j ≠ gS ∧ G j ≠ gU ∧ G j < S9 ∧ w.heap.size ≤ G j := by
                rw [hG]
                apply six_ind <;> (simp only [six]; omega)
              rw [← hS9] at row
              have inj := own.ne
              obtain ⟨T, hT1⟩ : ∃ T, T = S9 + 1 := ⟨_, rfl⟩
              have T1 := Lib.hid hT1
              obtain ⟨Q2, hQ2⟩ : ∃ Q : World → Prop, Q = fun W => ShaSt W gS h d ∧ Blk W gU .u8 5 (A ++ m9) ∧ RowL W S9 n G K := ⟨_, rfl⟩
              have gSl : gS < gY := by omega
              have qg : ∀ W W' row, Q2 W → W.grownBy W' row → (∀ g, row = some g → (∃ j, j < 6 ∧ G j = g) ∨ T ≤ g) → Q2 W' := by
                rw [hQ2]
                rintro W W' row ⟨h1, h2, h3⟩ hg hr
                have ne : ∀ g, (∀ j, j < 6 → G j ≠ g) → g < T → some g ≠ row := fun g h1 h2 e => by
                  rcases hr g e.symm with ⟨j, h3, h4⟩ | h3
                  · exact h1 j h3 h4
                  · omega
                exact ⟨h1.grown hg (ne _ (fun j hj => (hlG j hj).1) (by omega)), h2.grown hg (ne _ (fun j hj => (hlG j hj).2.1) (by omega)), h3.grown hg (ne _ (fun j hj => by have := (hlG j hj).2.2.1; omega) (by omega))⟩
              have qr : ∀ W, Q2 W → RowL W S9 n G K := by rw [hQ2]; exact fun W k => k.2.2
              have HQ := Lib.hid hQ2
              have HS9 := Lib.hid hS9
              have hB0 : ∀ o, Below w.heap.size w (w22.alloc o) := fun o => hB.trans ((al o).mono hB.size)
              have hT0 : ∀ o, T ≤ (w22.alloc o).heap.size := fun o => by simp; omega
              have hS1 := fun o => hS.keep (al o)
              have kU1 := fun o => kU.below (al o) kU.lt
              have own1 := fun o => own.keep (al o)
              have HG := Lib.hid hG
              clear hG hK hZ0 hQ2 hS9 hT1 hS hT pY pZ pF pG pH pJ kU kV own al hB S5 zs0 zs12 zs13 zs14 zs15 zs16 zs17 zs18 zs19 zs20 zs21 zs22 bF bG bH bJ ltF ltG ltH ltJ HG ss' hy uy
              go_wp2_with fail
              rw [← HS9.out]
              go_loopw [22] (fun t wr => ∃ (i : Nat) (Z : Nat → List Int), i ≤ 6 ∧ t = .int .i64 (i : Int) ∧ Own wr 5 6 n G K Z ∧ (∀ j, j < i → Z j = rep6 n j) ∧ Q2 wr ∧ Below w.heap.size w wr ∧ T ≤ wr.heap.size) (fun t _ => 6 - (intOf t).toNat)
              case atStart => exact ⟨0, Z0, by omega, rfl, own1 _, fun j hj => absurd hj (by omega), by rw [HQ.out]; exact ⟨hS1 _, kU1 _, row⟩, hB0 _, hT0 _⟩
              case round =>
                clear own1 hS1 kU1 row hB0 hT0 Z0
                obtain ⟨i, Z, hi, rfl, ow, hz, hq, hB, hT⟩ := hrel
                have HZ := Lib.hid hz
                clear hz
                by_cases hlt : i < 6
                · have hin : (i : Int) < 6 := by omega
                  have hd1 : decide ((i : Int) < 6) = true := decide_eq_true hin
                  go_wp2_with fail
                  go_loopw [23] (fun t w3 => ∃ (k : Nat) (Z : Nat → List Int), k ≤ n ∧ t = .int .i64 (k : Int) ∧ Own w3 5 6 n G K Z ∧ (∀ j, j < i → Z j = rep6 n j) ∧ (Z i).take k = List.replicate k (60 + (i : Int)) ∧ Q2 w3 ∧ Below w.heap.size w w3 ∧ T ≤ w3.heap.size) (fun t _ => n - (intOf t).toNat)
                  case atStart => exact ⟨0, Z, by omega, rfl, ow, HZ.out, rfl, hq, hB, hT⟩
                  case round =>
                    clear ow hq hB hT HZ
                    obtain ⟨k, Z, hk, rfl, ow, hz, hzt, hq, hB, hT⟩ := hrel
                    have HZ := Lib.hid hz
                    have ZT := Lib.hid hzt
                    have rl := (qr _ hq).2 i hlt
                    have LZ := Lib.hid (ow.len i hlt)
                    clear hz hzt
                    by_cases hkl : k < n
                    · have pi := ow.pre i hlt
                      have c1 := pi.cell k (by rw [LZ.out]; exact hkl)
                      have f1 := pi.free k
                      have ow2 := ow.set i k hlt (60 + (i : Int))
                      obtain ⟨Z2, hZ2⟩ : ∃ Z2, Z2 = fun j => if j = i then (Z i).set k (60 + (i : Int)) else Z j := ⟨_, rfl⟩
                      rw [← hZ2] at ow2
                      have hz2 : Hid (∀ j, j < i → Z2 j = rep6 n j) := Lib.hid fun j hj => by
                        rw [hZ2]
                        show (if j = i then _ else _) = _
                        rw [if_neg (by omega)]
                        exact HZ.out j hj
                      have zt2 : Hid ((Z2 i).take (k + 1) = List.replicate (k + 1) (60 + (i : Int))) := Lib.hid (by
                        rw [hZ2]
                        show List.take (k + 1) (if i = i then _ else _) = _
                        rw [if_pos rfl]
                        exact rep_set LZ.out hkl ZT.out)
                      have hg2 := grownBy_set wr ⟨G i, k, none⟩ (.int .u8 (60 + (i : Int)))
                      have q2 := qg _ _ _ hq hg2 (fun g e => .inl ⟨i, hlt, Option.some.inj e⟩)
                      have hB2 := hB.setCell (p := ⟨G i, k, none⟩) (hlG i hlt).2.2.2 (.int .u8 (60 + (i : Int)))
                      have hT2 : T ≤ (wr.setCell ⟨G i, k, none⟩ (.int .u8 (60 + (i : Int)))).heap.size := by simpa using hT
                      have hkn : (k : Int) < (n : Int) := by omega
                      have hd2 : decide ((k : Int) < (n : Int)) = true := decide_eq_true hkn
                      have hw1 : IntKind.i64.wrap (60 + (i : Int)) = 60 + (i : Int) := by rw [IntKind.wrap_i64]; omega
                      have hw2 : IntKind.u8.wrap (60 + (i : Int)) = 60 + (i : Int) := by rw [IntKind.wrap_u8']; omega
                      have hm2 : (60 + (i : Int)) % 256 = 60 + (i : Int) := by omega
                      clear hZ2 pi ow hq hB hg2 hT
                      go_wp2_with fail
                      go_roundw
                      case rel => exact ⟨k + 1, Z2, by omega, by go_num, ow2, hz2.out, zt2.out, q2, hB2, hT2⟩
                      case measure => simp [intOf]; omega
                    · obtain rfl : n = k := by omega
                      have hd2 : decide ((n : Int) < (n : Int)) = false := by simp
                      have zr : Hid (Z i = rep6 n i) := Lib.hid (rep_all LZ.out ZT.out)
                      have hz2 : Hid (∀ j, j < i + 1 → Z j = rep6 n j) := Lib.hid fun j hj => by
                        by_cases e : j = i
                        · rw [e]; exact zr.out
                        · exact HZ.out j (by omega)
                      go_wp2_with fail
                      go_roundw
                      case rel => exact ⟨i + 1, Z, by omega, by go_num, ow, hz2.out, hq, hB, hT⟩
                      case measure => simp [intOf]; omega
                · obtain rfl : i = 6 := by omega
                  try rw [show ((6 : Nat) : Int) = 6 from rfl]
                  have hd1 : decide ((6 : Int) < 6) = false := by simp
                  have hp0 : ∀ j, 0 ≤ j → j < 6 → Pre wr (G j) .u8 5 (K j) (rep6 n j) := fun j _ hj => by have := ow.pre j hj; rwa [HZ.out j hj] at this
                  have hs0 : ∀ j, j < 6 → Sl .u8 wr (some ⟨G j, 0, none⟩) (K j) (rep6 n j) := fun j hj => (hp0 j (Nat.zero_le _) hj).sl
                  clear ow HZ hlt hi Z
                  go_wp2_with fail
                  go_loopw [24, 25] (fun v t wr => ∃ (i : Nat) (vs : List Value), i ≤ 6 ∧ t = .int .i64 (i : Int) ∧ vs.length = i ∧ NewV T 23 wr v vs ∧ Longs T wr.heap.size 5 G n wr vs ∧ (∀ j, i ≤ j → j < 6 → Pre wr (G j) .u8 5 (K j) (rep6 n j)) ∧ (∀ j, j < 6 → Sl .u8 wr (some ⟨G j, 0, none⟩) (K j) (rep6 n j)) ∧ Q2 wr ∧ Below w.heap.size w wr ∧ T ≤ wr.heap.size) (fun _ t _ => 6 - (intOf t).toNat)
                  case atStart => exact ⟨0, [], by omega, rfl, rfl, .nil _ _ _, .nil _ _ _ _ _ _, hp0, hs0, hq, hB, hT⟩
                  case round =>
                    clear hp0 hs0 hq hB hT
                    obtain ⟨i, vs, hi, rfl, hvl, hv, lg, hp, hs, hq, hB, hT⟩ := hrel
                    have VL := Lib.hid hvl
                    clear hvl
                    by_cases hlt : i < 6
                    · have hin : (i : Int) < 6 := by omega
                      have hd1 : decide ((i : Int) < 6) = true := decide_eq_true hin
                      have rl := (qr _ hq).2 i hlt
                      obtain ⟨T2, hT2⟩ : ∃ T2, T2 = wr.heap.size := ⟨_, rfl⟩
                      rw [← hT2] at lg
                      have nX := (hp i (Nat.le_refl _) hlt).new (hlG i hlt).2.2.2
                      rw [rep6_len] at nX
                      have ex := Ext.start nX (Nat.le_of_eq hT2.symm)
                      have vlt : ∀ g, u24.ownBlock = some g → T ≤ g ∧ g < T2 := fun g e => by have := hv.lt g e; omega
                      obtain ⟨Q3, hQ3⟩ : ∃ Q : World → Prop, Q = fun W => (∀ j, i < j → j < 6 → Pre W (G j) .u8 5 (K j) (rep6 n j)) ∧ (∀ j, j < 6 → j ≠ i → Sl .u8 W (some ⟨G j, 0, none⟩) (K j) (rep6 n j)) ∧ NewV T 23 W u24 vs ∧ Longs T T2 5 G n W vs ∧ Q2 W := ⟨_, rfl⟩
                      have TT2 : T ≤ T2 := by omega
                      have T22 : T2 ≤ wr.heap.size := by omega
                      have TS : S9 < T := by have := T1.out; omega
                      have qg3 : ∀ W W' row, Q3 W → W.grownBy W' row → (∀ g, row = some g → g = G i ∨ T2 ≤ g) → Q3 W' := by
                        rw [hQ3]
                        rintro W W' row ⟨h1, h2, h3, h4, h5⟩ hg hr
                        have ne : ∀ j, j < 6 → j ≠ i → some (G j) ≠ row := fun j hj hji e => by
                          rcases hr _ e.symm with h | h
                          · exact inj j i hj hlt hji h
                          · have := (hlG j hj).2.2.1; omega
                        refine ⟨fun j h6 h7 => (h1 j h6 h7).grown hg (ne j h7 (by omega)), fun j h6 h7 => (h2 j h6 h7).grown' hg (fun b off ha _ e => ?_), h3.kept hg ?_, h4.grown hg (fun g e => ?_), qg _ _ _ h5 hg (fun g e => ?_)⟩
                        · have h8 := Option.some.inj ha
                          simp only [Addr.mk.injEq] at h8
                          exact ne j h6 h7 (h8.1 ▸ e)
                        · cases ho : u24.ownBlock with
                          | none => exact .inl rfl
                          | some g =>
                            refine .inr fun e => ?_
                            have h8 := vlt g ho
                            have h9 := (hlG i hlt).2.2.1
                            rcases hr g e.symm with h | h <;> omega
                        · rcases hr g e with h | h
                          · exact .inl ⟨fun j hj e2 => inj j i (by have := VL.out; omega) hlt (by have := VL.out; omega) (e2.trans h), by have := (hlG i hlt).2.2.1; omega⟩
                          · exact .inr h
                        · rcases hr g e with h | h
                          · exact .inl ⟨i, hlt, h.symm⟩
                          · exact .inr (by omega)
                      have hq3 : Q3 wr := by rw [hQ3]; exact ⟨fun j h6 h7 => hp j (by omega) h7, fun j h6 _ => hs j h6, hv, lg, hq⟩
                      have HQ3 := Lib.hid hQ3
                      have hw1 : IntKind.i64.wrap (80 + (i : Int)) = 80 + (i : Int) := by rw [IntKind.wrap_i64]; omega
                      have hw2 : IntKind.u8.wrap (80 + (i : Int)) = 80 + (i : Int) := by rw [IntKind.wrap_u8']; omega
                      have hm2 : (80 + (i : Int)) % 256 = 80 + (i : Int) := by omega
                      clear hQ3 hT2 nX hp hs lg hq hT
                      go_wp2_with fail
                      go_loopw [26, 27] (fun x t w3 => ∃ (j : Nat), j ≤ 70 ∧ t = .int .i64 (j : Int) ∧ Ext T2 w.heap.size 5 w3 (some ⟨G i, 0, none⟩) (K i) (rep6 n i) x (List.replicate j (80 + (i : Int))) ∧ Q3 w3 ∧ Below w.heap.size w w3 ∧ T2 ≤ w3.heap.size) (fun _ t _ => 70 - (intOf t).toNat)
                      case atStart => exact ⟨0, by omega, rfl, ex, hq3, hB, T22⟩
                      case round =>
                        clear ex hq3 hB T22 hv rl
                        obtain ⟨j, hj, rfl, ex, hq, hB, T22⟩ := hrel
                        by_cases hjt : j < 70
                        · have hd2 : decide ((j : Int) < 70) = true := decide_eq_true (by omega)
                          have hws := hB.size
                          have al := (Below.refl wr.heap.size wr).alloc (Nat.le_refl _) (.cells #[.int .u8 (80 + (i : Int))] 5)
                          have ga := World.grownBy_alloc wr (.cells #[.int .u8 (80 + (i : Int))] 5) none
                          have ex1 := ex.below al
                          have q1 := qg3 _ _ _ hq ga (fun g e => by simp at e)
                          have hB1 := hB.trans (al.mono hws)
                          have as1 : (wr.alloc (.cells #[.int .u8 (80 + (i : Int))] 5)).heap.size = wr.heap.size + 1 := by simp
                          have lex : Hid ((rep6 n i ++ List.replicate j (80 + (i : Int))).length ≤ 200) := Lib.hid (by rw [List.length_append, rep6_len, List.length_replicate]; omega)
                          go_wp2_with (at_builtin; refine wpList_append_keep _ rfl _ _ 23 rfl w.heap.size 5 .u8 1 Tryd.underlying23 info8s _ _ rfl ex1.nx _ _ 1 [80 + (i : Int)] rfl rfl (cells_one _ _ _ _ _ rfl) (by have := lex.out; simp at this ⊢; omega) (by have := lex.out; simp at this ⊢; omega) (by rw [as1]; omega) ?_)
                          intro x' w3 n1 n0 hg3 ho3
                          have ex3 := ex1.append (ys := [80 + (i : Int)]) (by first | exact n1 | (rw [List.append_assoc]; exact n1)) n0 hg3 (by rw [as1]; exact ho3) (by rw [as1]; omega)
                          have hz3 := hg3.size
                          have q3 := qg3 _ _ _ q1 hg3 (fun g e => by
                            rcases ex.own g e with h1 | h1
                            · have h2 := Option.some.inj h1
                              simp only [Addr.mk.injEq] at h2
                              exact .inl h2.1.symm
                            · exact .inr (by omega))
                          have hB3 := hB1.grown hg3 (by rw [as1]; omega) (fun g hg => (ex1.nx.lt g hg).1)
                          have S3 : T2 ≤ w3.heap.size := by omega
                          have rA : Hid (List.replicate j (80 + (i : Int)) ++ [80 + (i : Int)] = List.replicate (j + 1) (80 + (i : Int))) := Lib.hid List.replicate_succ'.symm
                          rw [rA.out] at ex3
                          clear ex hq hB ex1 q1 hB1 hg3 ho3 n1 n0 al ga as1 rA lex
                          go_wp2_with fail
                          go_roundw
                          case rel => exact ⟨j + 1, by omega, by go_num, ex3, q3, hB3, S3⟩
                          case measure => simp [intOf]; omega
                        · obtain rfl : j = 70 := by omega
                          have hd2 : decide ((70 : Int) < 70) = false := by simp
                          have nX := ex.nx
                          have sa := ex.sa
                          have lex : Hid ((rep6 n i ++ List.replicate 70 (80 + (i : Int))).length = n + 70) := Lib.hid (by rw [List.length_append, rep6_len, List.length_replicate])
                          obtain ⟨b, c, rfl, bb, pb⟩ := nX.pre (by rw [lex.out]; omega)
                          have ob : b = G i ∨ T2 ≤ b := by
                            rcases ex.own b rfl with h1 | h1
                            · have h2 := Option.some.inj h1
                              simp only [Addr.mk.injEq] at h2
                              exact .inl h2.1.symm
                            · exact .inr h1
                          have hq' := hq
                          rw [HQ3.out] at hq'
                          obtain ⟨h1, h2, h3, h4, h5⟩ := hq'
                          rw [lex.out]
                          have hws := hB.size
                          clear hd1 hw1 hw2 hm2 hin nX ex hq qg3 HQ3
                          go_wp2_with (at_builtin; refine wpList_append_newV _ rfl _ _ 34 rfl T 23 24 Tryd.underlying34 infoS _ vs rfl (h3.alloc _) _ 1 (.slice (some ⟨b, 0, none⟩) (n + 70) c) ⟨_, _, _, rfl⟩ rfl (cell_new1 _ _ _ _) (by have := VL.out; omega) (by have := VL.out; omega) (by simp; omega) ?_)
                          intro v6 w6 hv6 hg6 hown
                          have ga := World.grownBy_alloc wr (.cells #[.slice (some ⟨b, 0, none⟩) (n + 70) c] 23) none
                          have v3 := h3.alloc (.cells #[.slice (some ⟨b, 0, none⟩) (n + 70) c] 23)
                          have pb6 := (pb.grown ga (by simp)).grown hg6 (v3.aside (pb.grown ga (by simp)) (by decide))
                          have hz6 := hg6.size
                          have as6 : (wr.alloc (.cells #[.slice (some ⟨b, 0, none⟩) (n + 70) c] 23)).heap.size = wr.heap.size + 1 := by simp
                          rw [as6] at hz6
                          have nlt : ∀ g, g < T → some g ≠ u24.ownBlock := fun g hg e => by have := vlt g e.symm; omega
                          have lg6 := (((h4.grown ga (fun g e => by simp at e)).aside v3 (by decide) hg6).mono (show T2 ≤ w6.heap.size by omega)).push VL.out pb6 (by rcases ob with h | h; exact .inl h; exact .inr (by omega)) pb6.lt
                          have hp6 : ∀ j, i + 1 ≤ j → j < 6 → Pre w6 (G j) .u8 5 (K j) (rep6 n j) := fun j h8 h9 => ((h1 j (by omega) h9).grown ga (by simp)).grown hg6 (nlt _ (by have := (hlG j h9).2.2.1; omega))
                          have hs6 : ∀ j, j < 6 → Sl .u8 w6 (some ⟨G j, 0, none⟩) (K j) (rep6 n j) := fun j hj => by
                            have hj6 : Sl .u8 wr (some ⟨G j, 0, none⟩) (K j) (rep6 n j) := by
                              by_cases e : j = i
                              · rw [e]; exact sa
                              · exact h2 j hj e
                            refine (hj6.grown' ga (fun b off ha _ => by simp)).grown' hg6 (fun b off ha _ => ?_)
                            have h8 := Option.some.inj ha
                            simp only [Addr.mk.injEq] at h8
                            exact nlt _ (by have := (hlG j hj).2.2.1; omega)
                          have q6 := qg _ _ _ (qg _ _ _ h5 ga (fun g e => by simp at e)) hg6 (fun g e => .inr (vlt g e).1)
                          have hB6 := (hB.alloc hws (.cells #[.slice (some ⟨b, 0, none⟩) (n + 70) c] 23)).grown hg6 (by rw [as6]; omega) (fun g e => by have := vlt g e; omega)
                          have hT6 : T ≤ w6.heap.size := by omega
                          have vl6 : Hid ((vs ++ [Value.slice (some ⟨b, 0, none⟩) (n + 70) c]).length = i + 1) := Lib.hid (by rw [List.length_append, VL.out]; rfl)
                          clear ga v3 pb6 h1 h2 h3 h4 h5 hg6 hown nlt pb sa lex as6
                          go_wp2_with fail
                          go_roundw
                          case rel => exact ⟨i + 1, _, by omega, by go_num, vl6.out, hv6, lg6, hp6, hs6, q6, hB6, hT6⟩
                          case measure => simp [intOf]; omega
                    · obtain rfl : i = 6 := by omega
                      try rw [show ((6 : Nat) : Int) = 6 from rfl]
                      have hd2 : decide ((6 : Int) < 6) = false := by simp
                      obtain ⟨aN, cN, rfl⟩ := hv.sl
                      obtain ⟨gN, rfl, _, _⟩ := hv.cell 0 (by rw [VL.out]; omega)
                      obtain ⟨n70, hn70⟩ : ∃ x, x = n + 70 := ⟨_, rfl⟩
                      have rows : ∀ j, j < 6 → ∃ b c, wr.cell? ⟨gN, j, none⟩ = some (.slice (some ⟨b, 0, none⟩) n70 c) ∧ Pre wr b .u8 5 c (rep6 n j ++ List.replicate 70 (80 + (j : Int))) := fun j hj => by
                        obtain ⟨b, c, h1, h2, _⟩ := lg.all j (by rw [VL.out]; exact hj)
                        obtain ⟨g, h3, _, h4⟩ := hv.cell j (by rw [VL.out]; exact hj)
                        have h5 := Option.some.inj h3
                        simp only [Addr.mk.injEq] at h5
                        obtain ⟨rfl, _⟩ := h5
                        rw [List.getElem?_eq_getElem (by rw [VL.out]; exact hj)] at h1
                        refine ⟨b, c, ?_, h2⟩
                        rw [h4, h1, hn70]
                      rw [VL.out]
                      have N70 := Lib.hid hn70
                      have n70b : n70 ≤ 134 := by omega
                      have n70c : n ≤ n70 := by omega
                      have QR := (qr _ hq).2
                      clear hn70 hv lg hd1 hp
                      go_wp2_with fail
                      go_loopw [28] (fun t w3 => ∃ i : Nat, i ≤ 6 ∧ t = .int .i64 (i : Int) ∧ Dr wr w3) (fun t _ => 6 - (intOf t).toNat)
                      case atStart => exact ⟨0, by omega, rfl, .refl _⟩
                      case round =>
                        obtain ⟨i, hi, rfl, nd, rfl⟩ := hrel
                        by_cases hlt6 : i < 6
                        · have hin : (i : Int) < 6 := by omega
                          have hd1 : decide ((i : Int) < 6) = true := decide_eq_true hin
                          have rl := QR i hlt6
                          obtain ⟨b, c, rb, pb⟩ := rows i hlt6
                          go_wp2_with fail
                          go_loopw [29] (fun t w3 => ∃ k : Nat, k ≤ n70 ∧ t = .int .i64 (k : Int) ∧ Dr wr w3) (fun t _ => n70 - (intOf t).toNat)
                          case atStart => exact ⟨0, by omega, rfl, (by repeat (first | exact Dr.refl _ | apply Dr.drewN))⟩
                          case round =>
                            obtain ⟨k, hk, rfl, nd2, rfl⟩ := hrel
                            have hw1 : IntKind.i64.wrap (60 + (i : Int)) = 60 + (i : Int) := by rw [IntKind.wrap_i64]; omega
                            have hw2 : IntKind.u8.wrap (60 + (i : Int)) = 60 + (i : Int) := by rw [IntKind.wrap_u8']; omega
                            have hm2 : (60 + (i : Int)) % 256 = 60 + (i : Int) := by omega
                            have hw3 : IntKind.i64.wrap (80 + (i : Int)) = 80 + (i : Int) := by rw [IntKind.wrap_i64]; omega
                            have hw4 : IntKind.u8.wrap (80 + (i : Int)) = 80 + (i : Int) := by rw [IntKind.wrap_u8']; omega
                            have hm4 : (80 + (i : Int)) % 256 = 80 + (i : Int) := by omega
                            by_cases hkl : k < n70
                            · have hd : decide ((k : Int) < (n70 : Int)) = true := decide_eq_true (by omega)
                              have k1 : (k : Int) < (n70 : Int) := by omega
                              have c2 := pb.cell k (by rw [List.length_append, rep6_len, List.length_replicate, ← N70.out]; exact hkl)
                              by_cases hkn : k < n
                              · have hd3 : decide ((k : Int) < (n : Int)) = true := decide_eq_true (by omega)
                                have hd4 : decide ((n : Int) ≤ (k : Int)) = false := decide_eq_false (by omega)
                                have k2 : (k : Int) < (n : Int) := by omega
                                obtain ⟨b1, o1, ea1, q1⟩ := (hs i hlt6).cells (by rw [rep6_len]; omega)
                                have e1 := Option.some.inj ea1
                                simp only [Addr.mk.injEq, and_true] at e1
                                obtain ⟨e1, rfl⟩ := e1
                                have c1 := q1 k (by rw [rep6_len]; exact hkn)
                                rw [Nat.zero_add, ← e1, show nth (rep6 n i) k = 60 + (i : Int) from rep_nth hkn] at c1
                                rw [show nth (rep6 n i ++ List.replicate 70 (80 + (i : Int))) k = 60 + (i : Int) from grown_lo hkn] at c2
                                clear q1 e1 ea1
                                go_wp2_with fail
                                go_roundw
                                case rel => exact ⟨k + 1, by omega, by go_num, (by repeat (first | exact Dr.refl _ | apply Dr.drewN))⟩
                                case measure => simp [intOf]; omega
                              · have hd3 : decide ((k : Int) < (n : Int)) = false := decide_eq_false (by omega)
                                have hd4 : decide ((n : Int) ≤ (k : Int)) = true := decide_eq_true (by omega)
                                rw [show nth (rep6 n i ++ List.replicate 70 (80 + (i : Int))) k = 80 + (i : Int) from grown_hi (by omega) (by rw [← N70.out]; exact hkl)] at c2
                                go_wp2_with fail
                                go_roundw
                                case rel => exact ⟨k + 1, by omega, by go_num, (by repeat (first | exact Dr.refl _ | apply Dr.drewN))⟩
                                case measure => simp [intOf]; omega
                            · obtain rfl : n70 = k := by omega
                              have hd : decide ((n70 : Int) < (n70 : Int)) = false := by simp
                              go_wp2_with fail
                              go_roundw
                              case rel => exact ⟨i + 1, by omega, by go_num, (by repeat (first | exact Dr.refl _ | apply Dr.drewN))⟩
                              case measure => simp [intOf]; omega
                        · obtain rfl : i = 6 := by omega
                          try rw [show ((6 : Nat) : Int) = 6 from rfl]
                          have hd1 : decide ((6 : Int) < 6) = false := by simp
                          replace hB := below_drewN hB nd
                          replace hq := qg _ _ _ hq (grownBy_drewN (row := none) ⟨rfl, rfl, rfl, Nat.le_refl _, fun _ _ _ => rfl⟩ nd) (fun g e => by simp at e)
                          rw [HQ.out] at hq
                          obtain ⟨hS, kU, _⟩ := hq
                          clear qg HQ qr QR rows hs hT hlG inj n70b n70c N70

                          go_wp2_with fail
                          refine (sc _ (hx.below hB) (ht.below hB)).mono ?_; rintro e w23 ⟨vP, rfl, nP, hb⟩
                          replace hS := hS.keep hb
                          replace kU := kU.below hb kU.lt
                          replace hB := hB.trans (hb.mono hB.size)
                          clear hb
                          obtain ⟨gP, cP, rfl, bP, pP⟩ := nP.pre (by rw [LA.out]; omega)
                          rw [LA.out]
                          have ltP := pP.lt
                          clear nP
                          go_wp2_with fail
                          refine (ss gS _ hS (ht.below hB)).mono ?_; rintro e w24 ⟨vR, rfl, nR, hb⟩
                          replace hS := hS.keep hb
                          replace kU := kU.below hb kU.lt
                          replace pP := pP.keep hb
                          replace hB := hB.trans (hb.mono hB.size)
                          clear hb
                          obtain ⟨gR, cR, rfl, bR, pR⟩ := nR.pre (by rw [LA.out]; omega)
                          rw [LA.out]
                          have ltR := pR.lt
                          clear nR
                          have sU : Sl .u8 w24 (some ⟨gU, 0, none⟩) (n + 9) A := by have := blk_sl kU (by rw [LA.out]; omega); rwa [LA.out] at this
                          have cm := same4_c _ _ _ _ _ _ _ pP.sl sU uA uA
                          rw [LA.out, show decide (A = A) = true from decide_eq_true rfl] at cm
                          clear sU
                          go_wp2_with fail
                          refine (cm).mono ?_; rintro e w25 ⟨rfl, hb⟩
                          replace hS := hS.keep hb
                          replace kU := kU.below hb kU.lt
                          replace pP := pP.keep hb
                          replace pR := pR.keep hb
                          replace hB := hB.trans (hb.mono hB.size)
                          clear hb
                          clear cm
                          have sU : Sl .u8 w25 (some ⟨gU, 0, none⟩) (n + 9) A := by have := blk_sl kU (by rw [LA.out]; omega); rwa [LA.out] at this
                          have cm := same4_c _ _ _ _ _ _ _ pR.sl sU uA uA
                          rw [LA.out, show decide (A = A) = true from decide_eq_true rfl] at cm
                          clear sU
                          go_wp2_with fail
                          refine (cm).mono ?_; rintro e w26 ⟨rfl, hb⟩
                          replace hS := hS.keep hb
                          replace kU := kU.below hb kU.lt
                          replace pP := pP.keep hb
                          replace pR := pR.keep hb
                          replace hB := hB.trans (hb.mono hB.size)
                          clear hb
                          clear cm
                          go_wp2_with fail
                          go_ret
                          exact ⟨rfl, hB⟩
end Go.Proofs.YtiookhggbloccaaDoor
