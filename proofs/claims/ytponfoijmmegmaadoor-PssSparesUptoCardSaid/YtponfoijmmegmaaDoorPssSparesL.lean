/- signetlaw10.PssSpares by its contract. (Printed by gen_pssspares.py.) -/
import Derived.Test.YtponfoijmmegmaaDoorPssV
import Derived.Test.YtponfoijmmegmaaDoorPssT
import Derived.Test.YtponfoijmmegmaaDoorSpN
set_option linter.unusedVariables false
set_option linter.unusedSimpArgs false
namespace Go.Sg
open Go.RowKit
/-- How a list that was overwritten, and grew, is told. -/
theorem grown_lo {n j k : Nat} {x y : Int} (hk : k < n) : nth (List.replicate n x ++ List.replicate j y) k = x := by
  rw [nth_append_left _ _ _ (by rw [List.length_replicate]; exact hk), nth_get _ _ (by rw [List.length_replicate]; exact hk)]
  simp
theorem grown_hi {n j k : Nat} {x y : Int} (hk : n ≤ k) (hj : k < n + j) : nth (List.replicate n x ++ List.replicate j y) k = y := by
  obtain ⟨i, rfl⟩ : ∃ i, k = n + i := ⟨k - n, by omega⟩
  have := nth_append_right (List.replicate n x) (List.replicate j y) i
  rw [List.length_replicate] at this
  rw [this, nth_get _ _ (by rw [List.length_replicate]; omega)]
  simp
theorem rep_nth {n k : Nat} {x : Int} (hk : k < n) : nth (List.replicate n x) k = x := by
  rw [nth_get _ _ (by rw [List.length_replicate]; exact hk)]
  simp
theorem rep_set {z : List Int} {i n : Nat} {x : Int} (hl : z.length = n) (hi : i < n) (h : z.take i = List.replicate i x) : (z.set i x).take (i + 1) = List.replicate (i + 1) x := by
  rw [take_succ_nth _ _ (by rw [List.length_set, hl]; exact hi), nth_set _ _ _ _ (by rw [hl]; exact hi), if_pos rfl, List.take_set_of_le (Nat.le_refl _), h, List.replicate_succ']
theorem rep_all {z : List Int} {n : Nat} {x : Int} (hl : z.length = n) (h : z.take n = List.replicate n x) : z = List.replicate n x := by
  rwa [List.take_of_length_le (by omega)] at h
end Go.Sg
namespace Go.Proofs.YtponfoijmmegmaaDoor
open Go.RowKit Go.Sg

set_option maxHeartbeats 16000000 in
set_option maxRecDepth 20000 in
theorem PssSpares_c (h bn n : Int) (a a' : Option Addr) (cap cap' : Nat) (d s : List Int) (w : World) (hx : Sl .u8 w a cap d) (ux : U8 d) (hy : Sl .u8 w a' cap' s) (uy : U8 s) (hz : d.length + s.length ≤ 1048576) (ht : ShaTabs w) :
    Calls Tryd.prog 6 #[.int .i64 h, .slice a d.length cap, .slice a' s.length cap', .int .i64 bn, .int .i64 n] w (TruePost w) := by
  obtain ⟨l, hl⟩ : ∃ l, l = d.length := ⟨_, rfl⟩
  obtain ⟨m, hm⟩ : ∃ m, m = s.length := ⟨_, rfl⟩
  have HL := Lib.hid hl
  have HM := Lib.hid hm
  have bz : Hid (d.length + s.length ≤ 2097152) := Lib.hid (by omega)
  have bs : Hid (s.length ≤ 1048576) := Lib.hid (by omega)
  have pe := fun W (sx : Sl .u8 W a cap d) (sy : Sl .u8 W a' cap' s) (t : ShaTabs W) => pEncode_c h bn a a' cap cap' d s W sx sy ux uy bz.out t
  have pm := fun W (sy : Sl .u8 W a' cap' s) (t : ShaTabs W) => pMask_c h n a' cap' s W sy uy bs.out t
  unfold EncPost at pe
  unfold MaskPost at pm
  obtain ⟨CE, hCE⟩ : ∃ C, C = ecode h d s bn := ⟨_, rfl⟩
  obtain ⟨CM, hCM⟩ : ∃ C, C = mcode h n := ⟨_, rfl⟩
  obtain ⟨EE, hEE⟩ : ∃ x, x = eres h d s bn := ⟨_, rfl⟩
  obtain ⟨EM, hEM⟩ : ∃ x, x = mres h s n := ⟨_, rfl⟩
  have uE : U8 EE := by rw [hEE]; exact eres_u8 uy
  have uM : U8 EM := by rw [hEM]; exact mres_u8 _ _ _
  have lE0 : EE.length ≤ 8192 := by
    rw [hEE]; unfold eres
    split
    · next k =>
      rw [encOf_len k.2.2]; unfold encLen; omega
    · simp
  have lM0 : EM.length ≤ 65536 := by
    rw [hEM]; unfold mres
    split
    · next k => rw [maskOf_len k.1]; omega
    · simp
  rw [← hCE, ← hEE, ← hl, ← hm] at pe
  rw [← hCM, ← hEM, ← hm] at pm
  have gE : (CE != CE) = false := by simp
  have gM : (CM != CM) = false := by simp
  rw [← hl, ← hm]
  clear hCE hCM hEE hEM hl hm
  obtain ⟨p, hp⟩ : ∃ p, p = EE.length := ⟨_, rfl⟩
  obtain ⟨q, hq⟩ : ∃ q, q = EM.length := ⟨_, rfl⟩
  have PE := Lib.hid hp
  have QM := Lib.hid hq
  rw [← hp] at lE0
  rw [← hq] at lM0
  clear hp hq
  go_enter Tryd.func6, Tryd.ntmps6
  have hB := Below.refl w.heap.size w
  go_wp2_with fail
  refine (awake_c w ht).mono ?_; rintro e w1 ⟨rfl, hb⟩
  replace hx := hx.below hb
  replace hy := hy.below hb
  replace ht := ht.below hb
  replace hB := hB.trans (hb.mono hB.size)
  clear hb
  have sz0 := hB.size
  go_wp2_with fail
  refine (pe _ hx hy ht).mono ?_; rintro e w2 ⟨vA, rfl, nA, hb⟩
  have zs2 := hb.size
  replace hx := hx.below hb
  replace hy := hy.below hb
  replace ht := ht.below hb
  replace hB := hB.trans (hb.mono hB.size)
  clear hb
  obtain ⟨aA, cA, rfl, sA⟩ := nA.sl
  rw [← PE.out] at nA ⊢
  have fA : ∀ b off, aA = some ⟨b, off, none⟩ → w1.heap.size ≤ b ∧ b < w2.heap.size := fun b off ha => nA.lt b (nA.addr_own b off ha)
  go_wp2_with fail
  refine (pe _ hx hy ht).mono ?_; rintro e w3 ⟨vB, rfl, nB, hb⟩
  have zs3 := hb.size
  replace hx := hx.below hb
  replace hy := hy.below hb
  replace ht := ht.below hb
  replace nA := nA.keep hb
  replace sA := sA.below hb
  replace hB := hB.trans (hb.mono hB.size)
  clear hb
  obtain ⟨aB, cB, rfl, sB⟩ := nB.sl
  rw [← PE.out] at nB ⊢
  have fB : ∀ b off, aB = some ⟨b, off, none⟩ → w2.heap.size ≤ b ∧ b < w3.heap.size := fun b off ha => nB.lt b (nB.addr_own b off ha)
  go_wp2_with fail
  refine (pm _ hy ht).mono ?_; rintro e w4 ⟨vC, rfl, nC, hb⟩
  have zs4 := hb.size
  replace hx := hx.below hb
  replace hy := hy.below hb
  replace ht := ht.below hb
  replace nA := nA.keep hb
  replace sA := sA.below hb
  replace nB := nB.keep hb
  replace sB := sB.below hb
  replace hB := hB.trans (hb.mono hB.size)
  clear hb
  obtain ⟨aC, cC, rfl, sC⟩ := nC.sl
  rw [← QM.out] at nC ⊢
  have fC : ∀ b off, aC = some ⟨b, off, none⟩ → w3.heap.size ≤ b ∧ b < w4.heap.size := fun b off ha => nC.lt b (nC.addr_own b off ha)
  go_wp2_with fail
  refine (pm _ hy ht).mono ?_; rintro e w5 ⟨vD, rfl, nD, hb⟩
  have zs5 := hb.size
  replace hx := hx.below hb
  replace hy := hy.below hb
  replace ht := ht.below hb
  replace nA := nA.keep hb
  replace sA := sA.below hb
  replace nB := nB.keep hb
  replace sB := sB.below hb
  replace nC := nC.keep hb
  replace sC := sC.below hb
  replace hB := hB.trans (hb.mono hB.size)
  clear hb
  obtain ⟨aD, cD, rfl, sD⟩ := nD.sl
  rw [← QM.out] at nD ⊢
  have fD : ∀ b off, aD = some ⟨b, off, none⟩ → w4.heap.size ≤ b ∧ b < w5.heap.size := fun b off ha => nD.lt b (nD.addr_own b off ha)
  clear hx hy
  clear pe pm bz bs
  have cm := same10_c _ _ _ _ _ _ _ sA sB uE uE
  rw [← PE.out, show decide (EE = EE) = true from decide_eq_true rfl] at cm
  go_wp2_with fail
  refine (cm).mono ?_; rintro e w6 ⟨rfl, hb⟩
  have zs6 := hb.size
  replace ht := ht.below hb
  replace nA := nA.keep hb
  replace sA := sA.below hb
  replace nB := nB.keep hb
  replace sB := sB.below hb
  replace nC := nC.keep hb
  replace sC := sC.below hb
  replace nD := nD.keep hb
  replace sD := sD.below hb
  replace hB := hB.trans (hb.mono hB.size)
  clear hb
  clear cm
  have cm := same10_c _ _ _ _ _ _ _ sC sD uM uM
  rw [← QM.out, show decide (EM = EM) = true from decide_eq_true rfl] at cm
  go_wp2_with fail
  refine (cm).mono ?_; rintro e w7 ⟨rfl, hb⟩
  have zs7 := hb.size
  replace ht := ht.below hb
  replace nA := nA.keep hb
  replace sA := sA.below hb
  replace nB := nB.keep hb
  replace sB := sB.below hb
  replace nC := nC.keep hb
  replace sC := sC.below hb
  replace nD := nD.keep hb
  replace sD := sD.below hb
  replace hB := hB.trans (hb.mono hB.size)
  clear hb
  clear cm gE gM
  have rc := roomy_c aB cB EE _ sB (by rw [← PE.out]; omega)
  unfold RoomPost at rc
  rw [← PE.out] at rc
  go_wp2_with fail
  refine (rc).mono ?_; rintro e w8 ⟨gU, rfl, hgU, kU, hb⟩
  have zs8 := hb.size
  replace ht := ht.below hb
  replace nA := nA.keep hb
  replace sA := sA.below hb
  replace nB := nB.keep hb
  replace sB := sB.below hb
  replace nC := nC.keep hb
  replace sC := sC.below hb
  replace nD := nD.keep hb
  replace sD := sD.below hb
  replace hB := hB.trans (hb.mono hB.size)
  clear hb
  clear rc
  have rc := roomy_c aD cD EM _ sD (by rw [← QM.out]; omega)
  unfold RoomPost at rc
  rw [← QM.out] at rc
  go_wp2_with fail
  refine (rc).mono ?_; rintro e w9 ⟨gV, rfl, hgV, kV, hb⟩
  have zs9 := hb.size
  replace ht := ht.below hb
  replace nA := nA.keep hb
  replace sA := sA.below hb
  replace nB := nB.keep hb
  replace sB := sB.below hb
  replace nC := nC.keep hb
  replace sC := sC.below hb
  replace nD := nD.keep hb
  replace sD := sD.below hb
  replace kU := kU.below hb kU.lt
  replace hB := hB.trans (hb.mono hB.size)
  clear hb
  clear rc
  have sU : Sl .u8 w9 (some ⟨gU, 0, none⟩) (p + 9) EE := by have := blk_sl kU (by rw [← PE.out]; omega); rwa [← PE.out] at this
  have sV : Sl .u8 w9 (some ⟨gV, 0, none⟩) (q + 9) EM := by have := blk_sl kV (by rw [← QM.out]; omega); rwa [← QM.out] at this
  obtain ⟨ps, hps⟩ : ∃ ps : List Part, ps = [⟨aB, cB, EE⟩, ⟨aD, cD, EM⟩, ⟨some ⟨gU, 0, none⟩, p + 9, EE⟩, ⟨some ⟨gV, 0, none⟩, q + 9, EM⟩] := ⟨_, rfl⟩
  have st : Stand w9 ps := by
    rw [hps]; intro x hx
    simp only [List.mem_cons, List.not_mem_nil, or_false] at hx
    rcases hx with rfl | rfl | rfl | rfl <;> assumption
  have awA : ∀ g, aA = some ⟨g, 0, none⟩ → (∀ b off, aC = some ⟨b, off, none⟩ → b ≠ g) ∧ ∀ x ∈ ps, ∀ b off, x.a = some ⟨b, off, none⟩ → b ≠ g := by
    intro g ha
    have h1 := fA g 0 ha
    refine ⟨fun b off e e2 => ?_, fun x hx b off hb e => ?_⟩
    · have h2 := fC b off e; omega
    · rw [hps] at hx
      subst e
      simp only [List.mem_cons, List.not_mem_nil, or_false] at hx
      rcases hx with rfl | rfl | rfl | rfl
      · have h2 := fB b off hb; omega
      · have h2 := fD b off hb; omega
      · simp at hb <;> omega
      · simp at hb <;> omega
  have awC : ∀ g, aC = some ⟨g, 0, none⟩ → (∀ b off, aA = some ⟨b, off, none⟩ → b ≠ g) ∧ ∀ x ∈ ps, ∀ b off, x.a = some ⟨b, off, none⟩ → b ≠ g := by
    intro g ha
    have h1 := fC g 0 ha
    refine ⟨fun b off e e2 => ?_, fun x hx b off hb e => ?_⟩
    · have h2 := fA b off e; omega
    · rw [hps] at hx
      subst e
      simp only [List.mem_cons, List.not_mem_nil, or_false] at hx
      rcases hx with rfl | rfl | rfl | rfl
      · have h2 := fB b off hb; omega
      · have h2 := fD b off hb; omega
      · simp at hb <;> omega
      · simp at hb <;> omega
  have oldP : ∀ x ∈ ps, ∀ b off, x.a = some ⟨b, off, none⟩ → b < w9.heap.size := by
    intro x hx b off hb
    have hsl := kU.lt
    have hsl2 := kV.lt
    rw [hps] at hx
    simp only [List.mem_cons, List.not_mem_nil, or_false] at hx
    rcases hx with rfl | rfl | rfl | rfl
    · have h2 := fB b off hb; omega
    · have h2 := fD b off hb; omega
    · simp at hb <;> omega
    · simp at hb <;> omega
  have bot : ∀ b off, aA = some ⟨b, off, none⟩ → w.heap.size ≤ b := fun b off ha => by have := fA b off ha; omega
  have botC : ∀ b off, aC = some ⟨b, off, none⟩ → w.heap.size ≤ b := fun b off ha => by have := fC b off ha; omega
  have nA1 := nA.mono (show w.heap.size ≤ _ by omega)
  have nC1 := nC.mono (show w.heap.size ≤ _ by omega)
  have HPS := Lib.hid hps
  obtain ⟨w0, hw0⟩ : ∃ x, x = w9 := ⟨_, rfl⟩
  have Z0 : w.heap.size ≤ w9.heap.size := hB.size
  clear hps sA sB sC sD sU sV kU kV nA nB nC nD hgU hgV fB fD ht
  clear hw0
  go_wp2_with fail
  go_loopw [21] (fun t wr => ∃ (i : Nat) (z : List Int), i ≤ p ∧ t = .int .i64 (i : Int) ∧ z.length = p ∧ z.take i = List.replicate i 77 ∧ New w.heap.size .u8 5 wr (.slice aA p cA) z ∧ New w.heap.size .u8 5 wr (.slice aC q cC) EM ∧ Stand wr ps ∧ Below w.heap.size w wr ∧ w9.heap.size ≤ wr.heap.size) (fun t _ => p - (intOf t).toNat)
  case atStart => exact ⟨0, EE, by omega, rfl, PE.out.symm, rfl, nA1, nC1, st, hB, Nat.le_refl _⟩
  case round =>
    clear nA1 nC1 st hB
    obtain ⟨i, z, hi, rfl, hzl, hzt, nA, nC, st, hB, hws⟩ := hrel
    have ZL := Lib.hid hzl
    have ZT := Lib.hid hzt
    clear hzl hzt
    by_cases hlt : i < p
    · obtain ⟨g, cp, hve, hgB, pre⟩ := nA.pre (by rw [ZL.out]; omega)
      rw [ZL.out] at hve
      simp only [Value.slice.injEq] at hve
      obtain ⟨rfl, _, rfl⟩ := hve
      obtain ⟨aw1, aw2⟩ := awA g rfl
      have c1 := pre.cell i (by rw [ZL.out]; exact hlt)
      have f1 := pre.free i
      have p2 := pre.set i 77
      have n2 := p2.new hgB
      have hg2 := grownBy_set wr ⟨g, i, none⟩ (.int .u8 77)
      have nC2 := nC.kept hg2 (by
        cases ho : (Value.slice aC q cC).ownBlock with
        | none => exact .inl rfl
        | some k => exact .inr fun e => aw1 k 0 (nC.own_addr k ho) (Option.some.inj e))
      have st2 := st.grown hg2 (fun x hx b off ha e => aw2 x hx b off ha (Option.some.inj e))
      have hB2 := hB.setCell (p := ⟨g, i, none⟩) hgB (.int .u8 77)
      have ll : Hid ((z.set i 77).length = p) := Lib.hid (by rw [List.length_set, ZL.out])
      have lt : Hid ((z.set i 77).take (i + 1) = List.replicate (i + 1) 77) := Lib.hid (rep_set ZL.out hlt ZT.out)
      have hin : (i : Int) < (p : Int) := by omega
      have hd1 : decide ((i : Int) < (p : Int)) = true := decide_eq_true hin
      have hs2 : w9.heap.size ≤ (wr.setCell ⟨g, i, none⟩ (.int .u8 77)).heap.size := by simpa using hws
      rw [ll.out] at n2
      clear nA nC st hB pre p2 hg2 aw1 aw2
      go_wp2_with fail
      go_roundw
      case rel => exact ⟨i + 1, _, by omega, by go_num, ll.out, lt.out, n2, nC2, st2, hB2, hs2⟩
      case measure => simp [intOf]; omega
    · obtain rfl : p = i := by omega
      have hd1 : decide ((p : Int) < (p : Int)) = false := by simp
      have zr := rep_all ZL.out ZT.out
      rw [zr] at nA
      clear zr
      go_wp2_with fail
      go_loopw [22] (fun t wr => ∃ (i : Nat) (z : List Int), i ≤ q ∧ t = .int .i64 (i : Int) ∧ z.length = q ∧ z.take i = List.replicate i 78 ∧ New w.heap.size .u8 5 wr (.slice aA p cA) (List.replicate p 77) ∧ New w.heap.size .u8 5 wr (.slice aC q cC) z ∧ Stand wr ps ∧ Below w.heap.size w wr ∧ w9.heap.size ≤ wr.heap.size) (fun t _ => q - (intOf t).toNat)
      case atStart => exact ⟨0, EM, by omega, rfl, QM.out.symm, rfl, nA, nC, st, hB, hws⟩
      case round =>
        clear nA nC st hB hws hd1 ZL ZT hlt hi
        obtain ⟨i, z, hi, rfl, hzl, hzt, nA, nC, st, hB, hws⟩ := hrel
        have ZL := Lib.hid hzl
        have ZT := Lib.hid hzt
        clear hzl hzt
        by_cases hlt : i < q
        · obtain ⟨g, cp, hve, hgB, pre⟩ := nC.pre (by rw [ZL.out]; omega)
          rw [ZL.out] at hve
          simp only [Value.slice.injEq] at hve
          obtain ⟨rfl, _, rfl⟩ := hve
          obtain ⟨aw1, aw2⟩ := awC g rfl
          have c1 := pre.cell i (by rw [ZL.out]; exact hlt)
          have f1 := pre.free i
          have p2 := pre.set i 78
          have n2 := p2.new hgB
          have hg2 := grownBy_set wr ⟨g, i, none⟩ (.int .u8 78)
          have nA2 := nA.kept hg2 (by
            cases ho : (Value.slice aA p cA).ownBlock with
            | none => exact .inl rfl
            | some k => exact .inr fun e => aw1 k 0 (nA.own_addr k ho) (Option.some.inj e))
          have st2 := st.grown hg2 (fun x hx b off ha e => aw2 x hx b off ha (Option.some.inj e))
          have hB2 := hB.setCell (p := ⟨g, i, none⟩) hgB (.int .u8 78)
          have ll : Hid ((z.set i 78).length = q) := Lib.hid (by rw [List.length_set, ZL.out])
          have lt : Hid ((z.set i 78).take (i + 1) = List.replicate (i + 1) 78) := Lib.hid (rep_set ZL.out hlt ZT.out)
          have hin : (i : Int) < (q : Int) := by omega
          have hd1 : decide ((i : Int) < (q : Int)) = true := decide_eq_true hin
          have hs2 : w9.heap.size ≤ (wr.setCell ⟨g, i, none⟩ (.int .u8 78)).heap.size := by simpa using hws
          rw [ll.out] at n2
          clear nA nC st hB pre p2 hg2 aw1 aw2
          go_wp2_with fail
          go_roundw
          case rel => exact ⟨i + 1, _, by omega, by go_num, ll.out, lt.out, nA2, n2, st2, hB2, hs2⟩
          case measure => simp [intOf]; omega
        · obtain rfl : q = i := by omega
          have hd1 : decide ((q : Int) < (q : Int)) = false := by simp
          have zr := rep_all ZL.out ZT.out
          rw [zr] at nC
          obtain ⟨S, hS⟩ : ∃ S, S = wr.heap.size := ⟨_, rfl⟩
          have exA := Ext.start nA (Nat.le_of_eq hS.symm)
          have exC := Ext.start nC (Nat.le_of_eq hS.symm)
          have oldS : ∀ x ∈ ps, ∀ b off, x.a = some ⟨b, off, none⟩ → b < S := fun x hx b off ha => by have := oldP x hx b off ha; omega
          have dis0 : ∀ g, (Value.slice aA p cA).ownBlock = some g → (Value.slice aC q cC).ownBlock ≠ some g := fun g h1 h2 => (awC g (nC.own_addr g h2)).1 g 0 (nA.own_addr g h1) rfl
          have hws2 := hB.size
          have Sw : w.heap.size ≤ S := by omega
          have Sw1 : S ≤ wr.heap.size := Nat.le_of_eq hS
          clear zr hd1 ZL ZT hlt hi nA nC hS
          go_wp2_with fail
          go_loopw [23, 24, 25] (fun x y t wr => ∃ (j : Nat), j ≤ 70 ∧ t = .int .i64 (j : Int) ∧ Ext S w.heap.size 5 wr aA cA (List.replicate p 77) x (List.replicate j 79) ∧ Ext S w.heap.size 5 wr aC cC (List.replicate q 78) y (List.replicate j 80) ∧ (∀ g, x.ownBlock = some g → y.ownBlock ≠ some g) ∧ Stand wr ps ∧ Below w.heap.size w wr ∧ S ≤ wr.heap.size) (fun _ _ t _ => 70 - (intOf t).toNat)
          case atStart => exact ⟨0, by omega, rfl, exA, exC, dis0, st, hB, Sw1⟩
          case round =>
            clear exA exC dis0 st hB Sw1 hws hws2
            obtain ⟨j, hj, rfl, exA, exC, dis, st, hB, Sw2⟩ := hrel
            by_cases hlt : j < 70
            · have hd1 : decide ((j : Int) < 70) = true := decide_eq_true (by omega)
              have hws := hB.size
              have al := (Below.refl wr.heap.size wr).alloc (Nat.le_refl _) (.cells #[.int .u8 79] 5)
              have exA1 := exA.below al
              have exC1 := exC.below al
              have st1 := st.below al
              have hB1 := hB.trans (al.mono hws)
              have as1 : (wr.alloc (.cells #[.int .u8 79] 5)).heap.size = wr.heap.size + 1 := by simp
              go_wp2_with (at_builtin; refine wpList_append_keep _ rfl _ _ 23 rfl w.heap.size 5 .u8 1 Tryd.underlying23 info8s _ _ rfl exA1.nx _ _ 1 [79] rfl rfl (cells_one _ _ _ _ _ rfl) (by simp; omega) (by simp; omega) (by rw [as1]; omega) ?_)
              intro x' w3 n1 n0 hg3 ho3
              have exA3 := exA1.append (ys := [79]) (by first | exact n1 | (rw [List.append_assoc]; exact n1)) n0 hg3 (by rw [as1]; exact ho3) (by rw [as1]; omega)
              have hz3 := hg3.size
              have exC3 := exC1.grown hg3 (fun b off ha e => by
                  rcases exA.own b e.symm with h1 | h1
                  · exact (awA b h1).1 b off ha rfl
                  · have := exC.old b off ha; omega)
                (fun g hy e => dis g e.symm hy)
              have st3 := st1.grown hg3 (fun x hx b off ha e => by
                  rcases exA.own b e.symm with h1 | h1
                  · exact (awA b h1).2 x hx b off ha rfl
                  · have := oldS x hx b off ha; omega)
              have hB3 := hB1.grown hg3 (by rw [as1]; omega) (fun g hg => (exA1.nx.lt g hg).1)
              have dis3 : ∀ g, x'.ownBlock = some g → u24.ownBlock ≠ some g := fun g h1 h2 => by
                rcases ho3 with e | ⟨g2, e, hge⟩
                · exact dis g (e ▸ h1) h2
                · have h3 := (exC1.nx.lt g h2).2
                  rw [e] at h1
                  have := Option.some.inj h1
                  omega
              have S3 : S ≤ w3.heap.size := by omega
              have rA : Hid (List.replicate j (79 : Int) ++ [79] = List.replicate (j + 1) 79) := Lib.hid List.replicate_succ'.symm
              have rC : Hid (List.replicate j (80 : Int) ++ [80] = List.replicate (j + 1) 80) := Lib.hid List.replicate_succ'.symm
              rw [rA.out] at exA3
              clear exA exC dis st hB exA1 exC1 st1 hB1 hg3 ho3 n1 n0 al as1 rA
              have hws3 := hB3.size
              have al := (Below.refl w3.heap.size w3).alloc (Nat.le_refl _) (.cells #[.int .u8 80] 5)
              have exA1 := exA3.below al
              have exC1 := exC3.below al
              have st1 := st3.below al
              have hB1 := hB3.trans (al.mono hws3)
              have as1 : (w3.alloc (.cells #[.int .u8 80] 5)).heap.size = w3.heap.size + 1 := by simp
              go_wp2_with (at_builtin; refine wpList_append_keep _ rfl _ _ 23 rfl w.heap.size 5 .u8 1 Tryd.underlying23 info8s _ _ rfl exC1.nx _ _ 1 [80] rfl rfl (cells_one _ _ _ _ _ rfl) (by simp; omega) (by simp; omega) (by rw [as1]; omega) ?_)
              intro y' w4 n1 n0 hg4 ho4
              have exC4 := exC1.append (ys := [80]) (by first | exact n1 | (rw [List.append_assoc]; exact n1)) n0 hg4 (by rw [as1]; exact ho4) (by rw [as1]; omega)
              have hz4 := hg4.size
              have exA4 := exA1.grown hg4 (fun b off ha e => by
                  rcases exC3.own b e.symm with h1 | h1
                  · exact (awC b h1).1 b off ha rfl
                  · have := exA3.old b off ha; omega)
                (fun g hy e => dis3 g hy e.symm)
              have st4 := st1.grown hg4 (fun x hx b off ha e => by
                  rcases exC3.own b e.symm with h1 | h1
                  · exact (awC b h1).2 x hx b off ha rfl
                  · have := oldS x hx b off ha; omega)
              have hB4 := hB1.grown hg4 (by rw [as1]; omega) (fun g hg => (exC1.nx.lt g hg).1)
              have dis4 : ∀ g, x'.ownBlock = some g → y'.ownBlock ≠ some g := fun g h1 h2 => by
                rcases ho4 with e | ⟨g2, e, hge⟩
                · exact dis3 g h1 (e ▸ h2)
                · have h3 := (exA1.nx.lt g h1).2
                  rw [e] at h2
                  have := Option.some.inj h2
                  omega
              have S4 : S ≤ w4.heap.size := by omega
              rw [rC.out] at exC4
              clear exA3 exC3 dis3 st3 hB3 exA1 exC1 st1 hB1 hg4 ho4 n1 n0 al as1 rC
              go_wp2_with fail
              go_roundw
              case rel => exact ⟨j + 1, by omega, by go_num, exA4, exC4, dis4, st4, hB4, S4⟩
              case measure => simp [intOf]; omega
            · obtain rfl : j = 70 := by omega
              have hd1 : decide ((70 : Int) < 70) = false := by simp
              obtain ⟨XL, hXL⟩ : ∃ X, X = List.replicate p (77 : Int) ++ List.replicate 70 79 := ⟨_, rfl⟩
              obtain ⟨YL, hYL⟩ : ∃ X, X = List.replicate q (78 : Int) ++ List.replicate 70 80 := ⟨_, rfl⟩
              obtain ⟨A77, hA77⟩ : ∃ X, X = List.replicate p (77 : Int) := ⟨_, rfl⟩
              obtain ⟨C78, hC78⟩ : ∃ X, X = List.replicate q (78 : Int) := ⟨_, rfl⟩
              have nX := exA.nx
              have nY := exC.nx
              have sA := exA.sa
              have sC := exC.sa
              rw [← hXL] at nX
              rw [← hYL] at nY
              rw [← hA77] at sA
              rw [← hC78] at sC
              obtain ⟨aX, cX, rfl, sX⟩ := nX.sl
              obtain ⟨aY, cY, rfl, sY⟩ := nY.sl
              have lX : Hid (XL.length = p + 70) := Lib.hid (by rw [hXL]; simp)
              have lY : Hid (YL.length = q + 70) := Lib.hid (by rw [hYL]; simp)
              have lA : Hid (A77.length = p) := Lib.hid (by rw [hA77]; simp)
              have lC : Hid (C78.length = q) := Lib.hid (by rw [hC78]; simp)
              have qA : Hid (∀ k, k < p → nth A77 k = 77) := Lib.hid fun k hk => by rw [hA77]; exact rep_nth hk
              have qC : Hid (∀ k, k < q → nth C78 k = 78) := Lib.hid fun k hk => by rw [hC78]; exact rep_nth hk
              have qX : Hid (∀ k, k < p → nth XL k = 77) := Lib.hid fun k hk => by rw [hXL]; exact grown_lo hk
              have qX2 : Hid (∀ k, p ≤ k → k < p + 70 → nth XL k = 79) := Lib.hid fun k hk h2 => by rw [hXL]; exact grown_hi hk h2
              have qY : Hid (∀ k, k < q → nth YL k = 78) := Lib.hid fun k hk => by rw [hYL]; exact grown_lo hk
              have qY2 : Hid (∀ k, q ≤ k → k < q + 70 → nth YL k = 80) := Lib.hid fun k hk h2 => by rw [hYL]; exact grown_hi hk h2
              have sB := st ⟨aB, cB, EE⟩ (by rw [HPS.out]; simp)
              have sD := st ⟨aD, cD, EM⟩ (by rw [HPS.out]; simp)
              have sU := st ⟨some ⟨gU, 0, none⟩, p + 9, EE⟩ (by rw [HPS.out]; simp)
              have sV := st ⟨some ⟨gV, 0, none⟩, q + 9, EM⟩ (by rw [HPS.out]; simp)
              rw [lX.out, lY.out]
              obtain ⟨p7, hp7⟩ : ∃ x, x = p + 70 := ⟨_, rfl⟩
              obtain ⟨q7, hq7⟩ : ∃ x, x = q + 70 := ⟨_, rfl⟩
              rw [← hp7] at lX ⊢
              rw [← hq7] at lY ⊢
              have P7 := Lib.hid hp7
              have p7b : p7 ≤ 8262 := by omega
              have q7b : q7 ≤ 65606 := by omega
              have Q7 := Lib.hid hq7
              clear hXL hYL hA77 hC78 nX nY exA exC dis st hp7 hq7 awA awC oldS oldP
              go_wp2_with fail
              go_loopw [26] (fun t w3 => ∃ k : Nat, k ≤ p7 ∧ t = .int .i64 (k : Int) ∧ Dr wr w3) (fun t _ => p7 - (intOf t).toNat)
              case atStart => exact ⟨0, by omega, rfl, .refl _⟩
              case round =>
                obtain ⟨k, hk, rfl, nd, rfl⟩ := hrel
                by_cases hkl : k < p7
                · have hd : decide ((k : Int) < (p7 : Int)) = true := decide_eq_true (by omega)
                  have k1 : (k : Int) < (p7 : Int) := by omega
                  obtain ⟨b1, o1, ea1, q1⟩ := sX.cells (by rw [lX.out]; omega)
                  subst ea1
                  have c1 := q1 k (by rw [lX.out]; exact hkl)
                  by_cases hkp : k < p
                  · have hd2 : decide ((k : Int) < (p : Int)) = true := decide_eq_true (by omega)
                    have hd3 : decide ((p : Int) ≤ (k : Int)) = false := decide_eq_false (by omega)
                    have k2 : (k : Int) < (p : Int) := by omega
                    obtain ⟨b2, o2, ea2, q2⟩ := sA.cells (by rw [lA.out]; omega)
                    subst ea2
                    have c2 := q2 k (by rw [lA.out]; exact hkp)
                    rw [qX.out k hkp] at c1
                    rw [qA.out k hkp] at c2
                    clear q1 q2
                    go_wp2_with fail
                    go_roundw
                    case rel => exact ⟨k + 1, by omega, by go_num, (by repeat (first | exact Dr.refl _ | apply Dr.drewN))⟩
                    case measure => simp [intOf]; omega
                  · have hd2 : decide ((k : Int) < (p : Int)) = false := decide_eq_false (by omega)
                    have hd3 : decide ((p : Int) ≤ (k : Int)) = true := decide_eq_true (by omega)
                    rw [qX2.out k (by omega) (by rw [← P7.out]; exact hkl)] at c1
                    clear q1
                    go_wp2_with fail
                    go_roundw
                    case rel => exact ⟨k + 1, by omega, by go_num, (by repeat (first | exact Dr.refl _ | apply Dr.drewN))⟩
                    case measure => simp [intOf]; omega
                · obtain rfl : p7 = k := by omega
                  have hd : decide ((p7 : Int) < (p7 : Int)) = false := by simp
                  go_wp2_with fail
                  go_loopw [27] (fun t w3 => ∃ k : Nat, k ≤ q7 ∧ t = .int .i64 (k : Int) ∧ Dr wr w3) (fun t _ => q7 - (intOf t).toNat)
                  case atStart => exact ⟨0, by omega, rfl, (by repeat (first | exact Dr.refl _ | apply Dr.drewN))⟩
                  case round =>
                    obtain ⟨k, hk, rfl, nd2, rfl⟩ := hrel
                    by_cases hkl2 : k < q7
                    · have hd : decide ((k : Int) < (q7 : Int)) = true := decide_eq_true (by omega)
                      have k1 : (k : Int) < (q7 : Int) := by omega
                      obtain ⟨b1, o1, ea1, q1⟩ := sY.cells (by rw [lY.out]; omega)
                      subst ea1
                      have c1 := q1 k (by rw [lY.out]; exact hkl2)
                      by_cases hkp : k < q
                      · have hd2 : decide ((k : Int) < (q : Int)) = true := decide_eq_true (by omega)
                        have hd3 : decide ((q : Int) ≤ (k : Int)) = false := decide_eq_false (by omega)
                        have k2 : (k : Int) < (q : Int) := by omega
                        obtain ⟨b2, o2, ea2, q2⟩ := sC.cells (by rw [lC.out]; omega)
                        subst ea2
                        have c2 := q2 k (by rw [lC.out]; exact hkp)
                        rw [qY.out k hkp] at c1
                        rw [qC.out k hkp] at c2
                        clear q1 q2
                        go_wp2_with fail
                        go_roundw
                        case rel => exact ⟨k + 1, by omega, by go_num, (by repeat (first | exact Dr.refl _ | apply Dr.drewN))⟩
                        case measure => simp [intOf]; omega
                      · have hd2 : decide ((k : Int) < (q : Int)) = false := decide_eq_false (by omega)
                        have hd3 : decide ((q : Int) ≤ (k : Int)) = true := decide_eq_true (by omega)
                        rw [qY2.out k (by omega) (by rw [← Q7.out]; exact hkl2)] at c1
                        clear q1
                        go_wp2_with fail
                        go_roundw
                        case rel => exact ⟨k + 1, by omega, by go_num, (by repeat (first | exact Dr.refl _ | apply Dr.drewN))⟩
                        case measure => simp [intOf]; omega
                    · obtain rfl : q7 = k := by omega
                      have hd : decide ((q7 : Int) < (q7 : Int)) = false := by simp
                      have hB9 := below_drewN hB nd2
                      have cm := same10_c _ _ _ _ _ _ _ (sB.drewN nd2) (sU.drewN nd2) uE uE
                      rw [← PE.out, show decide (EE = EE) = true from decide_eq_true rfl] at cm
                      have sD9 := sD.drewN nd2
                      have sV9 := sV.drewN nd2
                      go_wp2_with fail
                      refine cm.mono ?_; rintro e w5 ⟨rfl, hb5⟩
                      have cm2 := same10_c _ _ _ _ _ _ _ (sD9.below hb5) (sV9.below hb5) uM uM
                      rw [← QM.out, show decide (EM = EM) = true from decide_eq_true rfl] at cm2
                      have hB10 := hB9.trans (hb5.mono hB9.size)
                      clear cm
                      go_wp2_with fail
                      refine cm2.mono ?_; rintro e w6 ⟨rfl, hb6⟩
                      go_wp2_with fail
                      go_ret
                      exact ⟨rfl, hB10.trans (hb6.mono hB10.size)⟩
end Go.Proofs.YtponfoijmmegmaaDoor
