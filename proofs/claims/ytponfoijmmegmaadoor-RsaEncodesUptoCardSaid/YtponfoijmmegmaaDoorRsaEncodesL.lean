/- signetlaw9.RsaEncodes by its contract. (Printed by gen_rsaencodes.py.) -/
import Derived.Test.YtponfoijmmegmaaDoorLentN
import Derived.Test.YtponfoijmmegmaaDoorRsaB
import Derived.Test.YtponfoijmmegmaaDoorRepN
set_option linter.unusedVariables false
set_option linter.unusedSimpArgs false
namespace Go.Proofs.YtponfoijmmegmaaDoor
open Go.RowKit Go.Sg

set_option maxHeartbeats 16000000 in
set_option maxRecDepth 20000 in
theorem RsaEncodes_c (h n : Int) (a : Option Addr) (cap : Nat) (m : List Int) (w : World) (hx : Sl .u8 w a cap m) (ux : U8 m) (hz : m.length ≤ 1048576) (ht : ShaTabs w) (hr : RefTabs w) (hi : Infos w) :
    Calls Tryd.prog 8 #[.int .i64 h, .slice a m.length cap, .int .i64 n] w (TruePost w) := by
  obtain ⟨l, hl⟩ : ∃ l, l = m.length := ⟨_, rfl⟩
  have HL := Lib.hid hl
  have ht0 := ht
  have hr0 := hr
  have hi0 := hi
  have hx0 := hx
  have pe := fun (X : List Int) (lX : X.length = l) (uX : U8 X) W a1 c1 (sx : Sl .u8 W a1 c1 X) (t : ShaTabs W) (i : Infos W) => pREncode_c h n a1 c1 X W sx uX (by omega) t i
  have re := fun (X : List Int) (lX : X.length = l) (uX : U8 X) W a1 c1 (sx : Sl .u8 W a1 c1 X) (t : RefTabs W) => rREncode_c h n a1 c1 X W sx uX (by omega) t
  unfold REncPost at pe re
  obtain ⟨CE, hCE⟩ : ∃ C, C = rcode h n := ⟨_, rfl⟩
  obtain ⟨EE, hEE⟩ : ∃ x, x = rres h m n := ⟨_, rfl⟩
  have uE : U8 EE := by rw [hEE]; exact rres_u8 _ _ _
  have lE0 : EE.length ≤ 512 := by rw [hEE]; exact rres_len _ _ _
  rw [← hCE] at pe re
  have pe1 := pe m HL.out.symm ux
  have re1 := re m HL.out.symm ux
  rw [← hEE, ← hl] at pe1 re1
  have gE : (CE != CE) = false := by simp
  have gE2 : (CE == CE) = true := by simp
  have rc := lent_c a cap m w hx (by omega)
  unfold LentPost at rc
  rw [← hl] at rc hz ⊢
  clear hCE hEE hl
  obtain ⟨p, hp⟩ : ∃ p, p = EE.length := ⟨_, rfl⟩
  have PE := Lib.hid hp
  rw [← hp] at lE0
  clear hp
  go_enter Tryd.func8, Tryd.ntmps8
  have hB := Below.refl w.heap.size w
  go_wp2_with fail
  refine (rc).mono ?_; rintro e w1 ⟨g, cp, rfl, hg, pre, hb⟩
  have zs1 := hb.size
  replace hx := hx.below hb
  replace ht := ht.below hb
  replace hr := hr.below hb
  replace hi := hi.below hb
  replace hB := hB.trans (hb.mono hB.size)
  clear hb
  clear rc
  have gl := pre.lt
  have bk : ∀ W (X : List Int), Pre W g .u8 5 cp (X ++ marks) → Sl .u8 W (some ⟨g, 0, none⟩) cp X := fun W X k => by have := (k.sl).take X.length; rwa [List.take_left] at this
  have bb := hB.size
  go_wp2_with fail
  refine (pe1 _ _ _ (bk _ _ pre) ht hi).mono ?_; rintro e w2 ⟨vA, rfl, nA, hb⟩
  have zs2 := hb.size
  replace hx := hx.below hb
  replace ht := ht.below hb
  replace hr := hr.below hb
  replace hi := hi.below hb
  replace pre := pre.keep hb
  replace hB := hB.trans (hb.mono hB.size)
  clear hb
  obtain ⟨aA, cA, rfl, sA⟩ := nA.sl
  rw [← PE.out] at nA ⊢
  have fA : ∀ b off, aA = some ⟨b, off, none⟩ → w1.heap.size ≤ b ∧ b < w2.heap.size := fun b off ha => nA.lt b (nA.addr_own b off ha)
  go_wp2_with fail
  refine (pe1 _ _ _ (bk _ _ pre) ht hi).mono ?_; rintro e w3 ⟨vB, rfl, nB, hb⟩
  have zs3 := hb.size
  replace hx := hx.below hb
  replace ht := ht.below hb
  replace hr := hr.below hb
  replace hi := hi.below hb
  replace pre := pre.keep hb
  replace nA := nA.keep hb
  replace sA := sA.below hb
  replace hB := hB.trans (hb.mono hB.size)
  clear hb
  obtain ⟨aB, cB, rfl, sB⟩ := nB.sl
  rw [← PE.out] at nB ⊢
  have fB : ∀ b off, aB = some ⟨b, off, none⟩ → w2.heap.size ≤ b ∧ b < w3.heap.size := fun b off ha => nB.lt b (nB.addr_own b off ha)
  go_wp2_with fail
  refine (re1 _ _ _ hx hr).mono ?_; rintro e w4 ⟨vC, rfl, nC, hb⟩
  have zs4 := hb.size
  replace hx := hx.below hb
  replace ht := ht.below hb
  replace hr := hr.below hb
  replace hi := hi.below hb
  replace pre := pre.keep hb
  replace nA := nA.keep hb
  replace sA := sA.below hb
  replace nB := nB.keep hb
  replace sB := sB.below hb
  replace hB := hB.trans (hb.mono hB.size)
  clear hb
  obtain ⟨aC, cC, rfl, sC⟩ := nC.sl
  rw [← PE.out] at nC ⊢
  have fC : ∀ b off, aC = some ⟨b, off, none⟩ → w3.heap.size ≤ b ∧ b < w4.heap.size := fun b off ha => nC.lt b (nC.addr_own b off ha)
  have cm := same9_c _ _ _ _ _ _ _ sA sC uE uE
  rw [← PE.out, show decide (EE = EE) = true from decide_eq_true rfl] at cm
  go_wp2_with fail
  refine (cm).mono ?_; rintro e w5 ⟨rfl, hb⟩
  have zs5 := hb.size
  replace hx := hx.below hb
  replace ht := ht.below hb
  replace hr := hr.below hb
  replace hi := hi.below hb
  replace pre := pre.keep hb
  replace nA := nA.keep hb
  replace sA := sA.below hb
  replace nB := nB.keep hb
  replace sB := sB.below hb
  replace nC := nC.keep hb
  replace sC := sC.below hb
  replace hB := hB.trans (hb.mono hB.size)
  clear hb
  clear cm
  have cm := same9_c _ _ _ _ _ _ _ sB sC uE uE
  rw [← PE.out, show decide (EE = EE) = true from decide_eq_true rfl] at cm
  go_wp2_with fail
  refine (cm).mono ?_; rintro e w6 ⟨rfl, hb⟩
  have zs6 := hb.size
  replace hx := hx.below hb
  replace ht := ht.below hb
  replace hr := hr.below hb
  replace hi := hi.below hb
  replace pre := pre.keep hb
  replace nA := nA.keep hb
  replace sA := sA.below hb
  replace nB := nB.keep hb
  replace sB := sB.below hb
  replace nC := nC.keep hb
  replace sC := sC.below hb
  replace hB := hB.trans (hb.mono hB.size)
  clear hb
  clear cm
  have sp := still9_c g cp a cap m _ pre hx
  rw [← HL.out] at sp
  go_wp2_with fail
  refine (sp).mono ?_; rintro e w7 ⟨rfl, hb⟩
  have zs7 := hb.size
  replace hx := hx.below hb
  replace ht := ht.below hb
  replace hr := hr.below hb
  replace hi := hi.below hb
  replace pre := pre.keep hb
  replace nA := nA.keep hb
  replace sA := sA.below hb
  replace nB := nB.keep hb
  replace sB := sB.below hb
  replace nC := nC.keep hb
  replace sC := sC.below hb
  replace hB := hB.trans (hb.mono hB.size)
  clear hb
  clear sp
  obtain ⟨ps, hps⟩ : ∃ ps : List Part, ps = [⟨aB, cB, EE⟩, ⟨aC, cC, EE⟩] := ⟨_, rfl⟩
  have st : Stand w7 ps := by
    rw [hps]; intro x hx
    simp only [List.mem_cons, List.not_mem_nil, or_false] at hx
    rcases hx with rfl | rfl <;> assumption
  have awA : ∀ k, aA = some ⟨k, 0, none⟩ → ∀ x ∈ ps, ∀ b off, x.a = some ⟨b, off, none⟩ → b ≠ k := by
    intro k ha x hx b off hb e
    have h1 := fA k 0 ha
    rw [hps] at hx
    subst e
    simp only [List.mem_cons, List.not_mem_nil, or_false] at hx
    rcases hx with rfl | rfl
    · have h2 := fB b off hb; omega
    · have h2 := fC b off hb; omega
  have awG : ∀ k, aA = some ⟨k, 0, none⟩ → g < k := by
    intro k ha
    have h1 := fA k 0 ha
    omega
  have oldP : ∀ x ∈ ps, ∀ b off, x.a = some ⟨b, off, none⟩ → b < w7.heap.size ∧ g < b := by
    intro x hx b off hb
    rw [hps] at hx
    simp only [List.mem_cons, List.not_mem_nil, or_false] at hx
    rcases hx with rfl | rfl
    · have h2 := fB b off hb; omega
    · have h2 := fC b off hb; omega
  have nA1 := nA.mono (show w.heap.size ≤ _ by omega)
  have HPS := Lib.hid hps
  have G0 : g < w7.heap.size := by omega
  clear hps sA sB sC nA nB nC fB fC ht hr hi hx
  go_wp2_with fail
  go_loopw [14] (fun t wr => ∃ (i : Nat) (z : List Int), i ≤ p ∧ t = .int .i64 (i : Int) ∧ z.length = p ∧ z.take i = List.replicate i 119 ∧ New w.heap.size .u8 5 wr (.slice aA p cA) z ∧ Pre wr g .u8 5 cp (m ++ marks) ∧ Stand wr ps ∧ Below w.heap.size w wr ∧ w7.heap.size ≤ wr.heap.size) (fun t _ => p - (intOf t).toNat)
  case atStart => exact ⟨0, EE, by omega, rfl, PE.out.symm, rfl, nA1, pre, st, hB, Nat.le_refl _⟩
  case round =>
    clear nA1 pre st hB
    obtain ⟨i, z, hi, rfl, hzl, hzt, nA, pre, st, hB, hws⟩ := hrel
    have ZL := Lib.hid hzl
    have ZT := Lib.hid hzt
    clear hzl hzt
    by_cases hlt : i < p
    · obtain ⟨k, c', hve, hgB, pr⟩ := nA.pre (by rw [ZL.out]; omega)
      rw [ZL.out] at hve
      simp only [Value.slice.injEq] at hve
      obtain ⟨rfl, _, rfl⟩ := hve
      have aw2 := awA k rfl
      have aw3 := awG k rfl
      have c1 := pr.cell i (by rw [ZL.out]; exact hlt)
      have f1 := pr.free i
      have p2 := pr.set i 119
      have n2 := p2.new hgB
      have hg2 := grownBy_set wr ⟨k, i, none⟩ (.int .u8 119)
      have pre2 := pre.grown hg2 (by simp; omega)
      have st2 := st.grown hg2 (fun x hx b off ha e => aw2 x hx b off ha (Option.some.inj e))
      have hB2 := hB.setCell (p := ⟨k, i, none⟩) hgB (.int .u8 119)
      have ll : Hid ((z.set i 119).length = p) := Lib.hid (by rw [List.length_set, ZL.out])
      have lt : Hid ((z.set i 119).take (i + 1) = List.replicate (i + 1) 119) := Lib.hid (rep_set ZL.out hlt ZT.out)
      have hin : (i : Int) < (p : Int) := by omega
      have hd1 : decide ((i : Int) < (p : Int)) = true := decide_eq_true hin
      have hs2 : w7.heap.size ≤ (wr.setCell ⟨k, i, none⟩ (.int .u8 119)).heap.size := by simpa using hws
      rw [ll.out] at n2
      clear nA pre st hB pr p2 hg2 aw2 aw3
      go_wp2_with fail
      go_roundw
      case rel => exact ⟨i + 1, _, by omega, by go_num, ll.out, lt.out, n2, pre2, st2, hB2, hs2⟩
      case measure => simp [intOf]; omega
    · obtain rfl : p = i := by omega
      have hd1 : decide ((p : Int) < (p : Int)) = false := by simp
      have zr := rep_all ZL.out ZT.out
      rw [zr] at nA
      obtain ⟨S, hS⟩ : ∃ S, S = wr.heap.size := ⟨_, rfl⟩
      have exA := Ext.start nA (Nat.le_of_eq hS.symm)
      have oldS : ∀ x ∈ ps, ∀ b off, x.a = some ⟨b, off, none⟩ → b < S := fun x hx b off ha => by have := oldP x hx b off ha; omega
      have GS : g < S := by omega
      have hws2 := hB.size
      have Sw : w.heap.size ≤ S := by omega
      have Sw1 : S ≤ wr.heap.size := Nat.le_of_eq hS
      clear zr hd1 ZL ZT hlt hi nA hS
      go_wp2_with fail
      go_loopw [15, 16] (fun x t wr => ∃ (j : Nat), j ≤ 70 ∧ t = .int .i64 (j : Int) ∧ Ext S w.heap.size 5 wr aA cA (List.replicate p 119) x (List.replicate j 120) ∧ Pre wr g .u8 5 cp (m ++ marks) ∧ Stand wr ps ∧ Below w.heap.size w wr ∧ S ≤ wr.heap.size) (fun _ t _ => 70 - (intOf t).toNat)
      case atStart => exact ⟨0, by omega, rfl, exA, pre, st, hB, Sw1⟩
      case round =>
        clear exA pre st hB Sw1 hws hws2
        obtain ⟨j, hj, rfl, exA, pre, st, hB, Sw2⟩ := hrel
        by_cases hlt : j < 70
        · have hd1 : decide ((j : Int) < 70) = true := decide_eq_true (by omega)
          have hws := hB.size
          have al := (Below.refl wr.heap.size wr).alloc (Nat.le_refl _) (.cells #[.int .u8 120] 5)
          have exA1 := exA.below al
          have pre1 := pre.keep al
          have st1 := st.below al
          have hB1 := hB.trans (al.mono hws)
          have as1 : (wr.alloc (.cells #[.int .u8 120] 5)).heap.size = wr.heap.size + 1 := by simp
          go_wp2_with (at_builtin; refine wpList_append_keep _ rfl _ _ 23 rfl w.heap.size 5 .u8 1 Tryd.underlying23 info8s _ _ rfl exA1.nx _ _ 1 [120] rfl rfl (cells_one _ _ _ _ _ rfl) (by simp; omega) (by simp; omega) (by rw [as1]; omega) ?_)
          intro x' w3 n1 n0 hg3 ho3
          have exA3 := exA1.append (ys := [120]) (by first | exact n1 | (rw [List.append_assoc]; exact n1)) n0 hg3 (by rw [as1]; exact ho3) (by rw [as1]; omega)
          have hz3 := hg3.size
          have st3 := st1.grown hg3 (fun x hx b off ha e => by
              rcases exA.own b e.symm with h1 | h1
              · exact awA b h1 x hx b off ha rfl
              · have := oldS x hx b off ha; omega)
          have pre3 := pre1.grown hg3 (fun e => by
              rcases exA.own g e.symm with h1 | h1
              · have := awG g h1; omega
              · omega)
          have hB3 := hB1.grown hg3 (by rw [as1]; omega) (fun g hg => (exA1.nx.lt g hg).1)
          have S3 : S ≤ w3.heap.size := by omega
          have rA : Hid (List.replicate j (120 : Int) ++ [120] = List.replicate (j + 1) 120) := Lib.hid List.replicate_succ'.symm
          rw [rA.out] at exA3
          clear exA pre st hB exA1 pre1 st1 hB1 hg3 ho3 n1 n0 al as1 rA
          go_wp2_with fail
          go_roundw
          case rel => exact ⟨j + 1, by omega, by go_num, exA3, pre3, st3, hB3, S3⟩
          case measure => simp [intOf]; omega
        · obtain rfl : j = 70 := by omega
          have hd1 : decide ((70 : Int) < 70) = false := by simp
          obtain ⟨XL, hXL⟩ : ∃ X, X = List.replicate p (119 : Int) ++ List.replicate 70 120 := ⟨_, rfl⟩
          obtain ⟨A77, hA77⟩ : ∃ X, X = List.replicate p (119 : Int) := ⟨_, rfl⟩
          have nX := exA.nx
          have sA := exA.sa
          rw [← hXL] at nX
          rw [← hA77] at sA
          obtain ⟨aX, cX, rfl, sX⟩ := nX.sl
          have lX : Hid (XL.length = p + 70) := Lib.hid (by rw [hXL]; simp)
          have lA : Hid (A77.length = p) := Lib.hid (by rw [hA77]; simp)
          have qA : Hid (∀ k, k < p → nth A77 k = 119) := Lib.hid fun k hk => by rw [hA77]; exact rep_nth hk
          have qX : Hid (∀ k, k < p → nth XL k = 119) := Lib.hid fun k hk => by rw [hXL]; exact grown_lo hk
          have qX2 : Hid (∀ k, p ≤ k → k < p + 70 → nth XL k = 120) := Lib.hid fun k hk h2 => by rw [hXL]; exact grown_hi hk h2
          have sB := st ⟨aB, cB, EE⟩ (by rw [HPS.out]; simp)
          have sC := st ⟨aC, cC, EE⟩ (by rw [HPS.out]; simp)
          have oC : ∀ b off, aC = some ⟨b, off, none⟩ → g < b := fun b off ha => (oldP ⟨aC, cC, EE⟩ (by rw [HPS.out]; simp) b off ha).2
          rw [lX.out]
          obtain ⟨p7, hp7⟩ : ∃ x, x = p + 70 := ⟨_, rfl⟩
          have g70 : ((p : Int) + 70) = (p7 : Int) := by omega
          rw [← hp7] at lX ⊢
          have P7 := Lib.hid hp7
          have p7b : p7 ≤ 582 := by omega
          have gp : ((p7 : Int) != (p7 : Int)) = false := by simp
          have hx := hx0.below hB
          have ht := ht0.below hB
          have hr := hr0.below hB
          have hi := hi0.below hB
          clear hXL hA77 nX exA st hp7 awA awG oldS oldP
          have cm := same9_c _ _ _ _ _ _ _ sB sC uE uE
          rw [← PE.out, show decide (EE = EE) = true from decide_eq_true rfl] at cm
          go_wp2_with fail
          refine (cm).mono ?_; rintro e w8 ⟨rfl, hb⟩
          replace hx := hx.below hb
          replace ht := ht.below hb
          replace hr := hr.below hb
          replace hi := hi.below hb
          replace pre := pre.keep hb
          replace sA := sA.below hb
          replace sX := sX.below hb
          replace sB := sB.below hb
          replace sC := sC.below hb
          replace hB := hB.trans (hb.mono hB.size)
          clear hb
          clear cm
          have hsz := hB.size
          have G1 := pre.lt
          go_wp2_with fail
          refine (pe1 _ _ _ (bk _ _ pre) ht hi).mono ?_; rintro e w9 ⟨vD, rfl, nD, hb⟩
          replace hx := hx.below hb
          replace ht := ht.below hb
          replace hr := hr.below hb
          replace hi := hi.below hb
          replace pre := pre.keep hb
          replace sA := sA.below hb
          replace sX := sX.below hb
          replace sB := sB.below hb
          replace sC := sC.below hb
          replace hB := hB.trans (hb.mono hB.size)
          clear hb
          obtain ⟨aD, cD, rfl, sD⟩ := nD.sl
          rw [← PE.out]
          have oD : ∀ b off, aD = some ⟨b, off, none⟩ → g < b := fun b off ha => by have := nD.far b off ha; omega
          clear nD
          have cm := same9_c _ _ _ _ _ _ _ sD sC uE uE
          rw [← PE.out, show decide (EE = EE) = true from decide_eq_true rfl] at cm
          go_wp2_with fail
          refine (cm).mono ?_; rintro e w10 ⟨rfl, hb⟩
          replace hx := hx.below hb
          replace ht := ht.below hb
          replace hr := hr.below hb
          replace hi := hi.below hb
          replace pre := pre.keep hb
          replace sA := sA.below hb
          replace sX := sX.below hb
          replace sB := sB.below hb
          replace sC := sC.below hb
          replace sD := sD.below hb
          replace hB := hB.trans (hb.mono hB.size)
          clear hb
          clear cm
          have cm := same9_c _ _ _ _ _ _ _ sB sC uE uE
          rw [← PE.out, show decide (EE = EE) = true from decide_eq_true rfl] at cm
          go_wp2_with fail
          refine (cm).mono ?_; rintro e w11 ⟨rfl, hb⟩
          replace hx := hx.below hb
          replace ht := ht.below hb
          replace hr := hr.below hb
          replace hi := hi.below hb
          replace pre := pre.keep hb
          replace sA := sA.below hb
          replace sX := sX.below hb
          replace sB := sB.below hb
          replace sC := sC.below hb
          replace sD := sD.below hb
          replace hB := hB.trans (hb.mono hB.size)
          clear hb
          clear cm
          have sp := still9_c g cp a cap m _ pre hx
          rw [← HL.out] at sp
          go_wp2_with fail
          refine (sp).mono ?_; rintro e w12 ⟨rfl, hb⟩
          replace hx := hx.below hb
          replace ht := ht.below hb
          replace hr := hr.below hb
          replace hi := hi.below hb
          replace pre := pre.keep hb
          replace sA := sA.below hb
          replace sX := sX.below hb
          replace sB := sB.below hb
          replace sC := sC.below hb
          replace sD := sD.below hb
          replace hB := hB.trans (hb.mono hB.size)
          clear hb
          clear sp
          clear gE re1 pe1
          go_wp2_with fail
          obtain ⟨wX, hwX⟩ : ∃ x, x = w12 := ⟨_, rfl⟩
          rw [← hwX] at hx ht hr hi pre sA sX sB sC sD hB ⊢
          clear hwX
          go_loopw [19] (fun t w3 => ∃ k : Nat, k ≤ p7 ∧ t = .int .i64 (k : Int) ∧ Dr wX w3) (fun t _ => p7 - (intOf t).toNat)
          case atStart => exact ⟨0, by omega, rfl, (by repeat (first | exact Dr.refl _ | apply Dr.drewN))⟩
          case round =>
            obtain ⟨k, hk, rfl, nd, rfl⟩ := hrel
            by_cases hkl : k < p7
            · have hd : decide ((k : Int) < (p7 : Int)) = true := decide_eq_true (by omega)
              have k1 : (k : Int) < (p7 : Int) := by omega
              obtain ⟨b1, o1, ea1, q1⟩ := sX.cells (by rw [lX.out]; omega)
              subst ea1
              have c1 := q1 k (by rw [lX.out]; exact hkl)
              by_cases hkp : k < p
              · have hd2 : decide ((k : Int) < (p : Int)) = true := decide_eq_true (by omega)
                have hd3 : decide ((p : Int) ≤ (k : Int)) = false := decide_eq_false (by omega)
                have k2 : (k : Int) < (p : Int) := by omega
                obtain ⟨b2, o2, ea2, q2⟩ := sA.cells (by rw [lA.out]; omega)
                subst ea2
                have c2 := q2 k (by rw [lA.out]; exact hkp)
                rw [qX.out k hkp] at c1
                rw [qA.out k hkp] at c2
                clear q1 q2
                go_wp2_with fail
                go_roundw
                case rel => exact ⟨k + 1, by omega, by go_num, (by repeat (first | exact Dr.refl _ | apply Dr.drewN))⟩
                case measure => simp [intOf]; omega
              · have hd2 : decide ((k : Int) < (p : Int)) = false := decide_eq_false (by omega)
                have hd3 : decide ((p : Int) ≤ (k : Int)) = true := decide_eq_true (by omega)
                rw [qX2.out k (by omega) (by rw [← P7.out]; exact hkl)] at c1
                clear q1
                go_wp2_with fail
                go_roundw
                case rel => exact ⟨k + 1, by omega, by go_num, (by repeat (first | exact Dr.refl _ | apply Dr.drewN))⟩
                case measure => simp [intOf]; omega
            · obtain rfl : p7 = k := by omega
              have hd : decide ((p7 : Int) < (p7 : Int)) = false := by simp
              have hb := below_drewN (Below.refl wX.heap.size wX) nd
              replace pre := pre.keep hb
              replace sC := sC.below hb
              replace sD := sD.below hb
              replace ht := ht.below hb
              replace hr := hr.below hb
              replace hi := hi.below hb
              replace hB := hB.trans (hb.mono hB.size)
              clear sA sX sB hx hb
              obtain ⟨wY, hwY⟩ : ∃ x, x = wX.drewN nd := ⟨_, rfl⟩
              have tc := turned_c g cp m marks _ pre ux
              unfold TurnedPost at tc
              rw [← HL.out] at tc
              go_wp2_with fail
              refine tc.mono ?_; rintro e w5 ⟨rfl, Y, hYl, uY, pre5, hg5⟩
              have lY := Lib.hid hYl
              have sC5 := sC.grown' hg5 (fun b off ha hp e => by have := oC b off ha; have := Option.some.inj e; omega)
              have sD5 := sD.grown' hg5 (fun b off ha hp e => by have := oD b off ha; have := Option.some.inj e; omega)
              have hB5 := below_then hB hg5 hg hB.size
              have ht5 := ht0.below hB5
              have hr5 := hr0.below hB5
              have hi5 := hi0.below hB5
              have sY := bk _ _ pre5
              have pe2 := pe Y lY.out uY
              have re2 := re Y lY.out uY
              obtain ⟨E2, hE2⟩ : ∃ x, x = rres h Y n := ⟨_, rfl⟩
              have uE2 : U8 E2 := by rw [hE2]; exact rres_u8 _ _ _
              rw [← hE2, lY.out] at pe2 re2
              have b5s := hB5.size
              clear hE2 hYl tc pre sC sD ht hr hi hg5 hwY hB pe re
              go_wp2_with (at_builtin; refine wpList_append_new _ rfl _ _ 23 rfl w5.heap.size 5 .u8 1 Tryd.underlying23 info8s _ [] rfl (New.nil _ _ _ _) _ _ _ Y rfl lY.out.symm sY.cells (by rw [lY.out]; simp; omega) (by rw [lY.out]; simp; omega) (Nat.le_refl _) ?_)
              intro v6 w6 n6 g6 _
              have hb6 : Below w5.heap.size w5 w6 := (Below.refl _ _).grown g6 (Nat.le_refl _) fun g hg => by simp [Value.ownBlock] at hg
              have n6' : New w5.heap.size .u8 5 w6 v6 Y := by simpa using n6
              obtain ⟨aO, cO, rfl, sO⟩ := n6'.sl
              rw [lY.out]
              have hB := hB5.trans (hb6.mono b5s)
              have pre := pre5.keep hb6
              have sC := sC5.below hb6
              have sD := sD5.below hb6
              have ht := ht5.below hb6
              have hr := hr5.below hb6
              have hi := hi5.below hb6
              clear n6 n6' g6 hb6 hB5 pre5 sC5 sD5 ht5 hr5 hi5 sY
              go_wp2_with fail
              refine (pe2 _ _ _ (bk _ _ pre) ht hi).mono ?_; rintro e w31 ⟨vF, rfl, nF, hb⟩
              replace ht := ht.below hb
              replace hr := hr.below hb
              replace hi := hi.below hb
              replace pre := pre.keep hb
              replace sC := sC.below hb
              replace sD := sD.below hb
              replace sO := sO.below hb
              replace hB := hB.trans (hb.mono hB.size)
              clear hb
              obtain ⟨aF, cF, rfl, sF⟩ := nF.sl
              clear nF
              go_wp2_with fail
              refine (re2 _ _ _ sO hr).mono ?_; rintro e w32 ⟨vG, rfl, nG, hb⟩
              replace ht := ht.below hb
              replace hr := hr.below hb
              replace hi := hi.below hb
              replace pre := pre.keep hb
              replace sC := sC.below hb
              replace sD := sD.below hb
              replace sO := sO.below hb
              replace sF := sF.below hb
              replace hB := hB.trans (hb.mono hB.size)
              clear hb
              obtain ⟨aG, cG, rfl, sG⟩ := nG.sl
              clear nG
              have cm := same9_c _ _ _ _ _ _ _ sF sG uE2 uE2
              rw [show decide (E2 = E2) = true from decide_eq_true rfl] at cm
              go_wp2_with fail
              refine (cm).mono ?_; rintro e w33 ⟨rfl, hb⟩
              replace ht := ht.below hb
              replace hr := hr.below hb
              replace hi := hi.below hb
              replace pre := pre.keep hb
              replace sC := sC.below hb
              replace sD := sD.below hb
              replace sO := sO.below hb
              replace sF := sF.below hb
              replace sG := sG.below hb
              replace hB := hB.trans (hb.mono hB.size)
              clear hb
              clear cm
              have cm := same9_c _ _ _ _ _ _ _ sD sC uE uE
              rw [← PE.out, show decide (EE = EE) = true from decide_eq_true rfl] at cm
              go_wp2_with fail
              refine (cm).mono ?_; rintro e w34 ⟨rfl, hb⟩
              replace ht := ht.below hb
              replace hr := hr.below hb
              replace hi := hi.below hb
              replace pre := pre.keep hb
              replace sC := sC.below hb
              replace sD := sD.below hb
              replace sO := sO.below hb
              replace sF := sF.below hb
              replace sG := sG.below hb
              replace hB := hB.trans (hb.mono hB.size)
              clear hb
              clear cm
              have sp := still9_c g cp aO cO Y _ pre sO
              rw [lY.out] at sp
              go_wp2_with fail
              refine (sp).mono ?_; rintro e w35 ⟨rfl, hb⟩
              replace ht := ht.below hb
              replace hr := hr.below hb
              replace hi := hi.below hb
              replace pre := pre.keep hb
              replace sC := sC.below hb
              replace sD := sD.below hb
              replace sO := sO.below hb
              replace sF := sF.below hb
              replace sG := sG.below hb
              replace hB := hB.trans (hb.mono hB.size)
              clear hb
              clear sp
              go_wp2_with fail
              go_ret
              exact ⟨rfl, hB⟩
end Go.Proofs.YtponfoijmmegmaaDoor
