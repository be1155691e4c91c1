/- signetlaw4.ShaPlays by its contract. (Printed by gen_shaplays.py.) -/
import Derived.Test.YtnlmkikaaifcmaaDoorPlayC
set_option linter.unusedVariables false
set_option linter.unusedSimpArgs false
namespace Go.Proofs.YtnlmkikaaifcmaaDoor
open Go.RowKit Go.Sg
set_option maxHeartbeats 16000000 in
set_option maxRecDepth 100000 in
theorem ShaPlays_c (h : Int) (A : Option Addr) (ca : Nat) (ops : List (Int × Int × Part)) (w : World) (sc : PScr w A ca ops) (hz : ops.length ≤ 1048576) (hx : ∀ o ∈ ops, o.2.2.xs.length ≤ 1048576) (ht : ShaTabs w) (hr : RefTabs w) :
    Calls Tryd.prog 3 #[.int .i64 h, .slice A ops.length ca] w (fun e w' => e = .returned (.bool true) ∧ Below w.heap.size w w') := by
  have HX := Lib.hid hx
  obtain ⟨n, hn⟩ : ∃ n, n = ops.length := ⟨_, rfl⟩
  have HN := Lib.hid hn
  have hnz : n ≤ 1048576 := by omega
  rw [← hn]
  clear hn hz hx
  by_cases hh : IsHash h
  · have HH := Lib.hid hh
    have c0 := New_c h hh w ht
    have sz := fun W => rSize_c h W
    obtain ⟨z, hz⟩ : ∃ z, z = shaSize h := ⟨_, rfl⟩
    have s0 : ((z : Int) == 0) = false := by
      have := sha_ne hh
      rw [← hz] at this
      simpa using this
    rw [← hz] at sz
    clear hh hz
    go_enter Tryd.func3, Tryd.ntmps3
    go_wp2_with fail
    refine c0.mono ?_; rintro e_ w1 ⟨g, rfl, hg, hs, hb1⟩
    clear c0
    go_wp2_with fail
    refine (sz w1).mono ?_; rintro e_ w1_ ⟨rfl, rfl⟩
    have a1 := (Below.refl w1.heap.size w1).alloc (Nat.le_refl _) (.cells #[.pointer (some ⟨g, 0, none⟩)] 24)
    have n1 := NewV.one (E := 24) (.pointer (some ⟨g, 0, none⟩)) hb1.size
    obtain ⟨w2, hw2⟩ : ∃ x, x = w1.alloc (.cells #[.pointer (some ⟨g, 0, none⟩)] 24) := ⟨_, rfl⟩
    rw [← hw2] at a1 n1
    have e2 : w2.heap.size = w1.heap.size + 1 := by rw [hw2]; simp
    have B2 := hb1.trans (a1.mono hb1.size)
    have n2 := NewV.one (E := 29) (.slice none 0 0) B2.size
    have a2 := (Below.refl w2.heap.size w2).alloc (Nat.le_refl _) (.cells #[.slice none 0 0] 29)
    have hs2 := hs.keep a1
    obtain ⟨w3, hw3⟩ : ∃ x, x = w2.alloc (.cells #[.slice none 0 0] 29) := ⟨_, rfl⟩
    rw [← hw3] at n2 a2
    have B3 := B2.trans (a2.mono B2.size)
    have BK : Book w.heap.size w3.heap.size h w3 (.slice (some ⟨w1.heap.size, 0, none⟩) 1 1) (.slice (some ⟨w2.heap.size, 0, none⟩) 1 1) 1 1 (fun _ => g) (fun _ => []) (fun _ => []) (fun _ => .slice none 0 0) :=
      ⟨n1.keep a2, n2, fun _ _ => hs2.keep a2, fun _ _ => ⟨hg, (hs2.keep a2).lt⟩, fun i j hi hj hne => by omega, fun _ _ => .nil _ _ _ _, fun _ _ => .nil (by omega), fun _ g _ hg => by simp [Value.ownBlock] at hg, fun g hg => ((n1.keep a2).lt g hg).2, fun g hg => (n2.lt g hg).2⟩
    have HB := Lib.hid BK
    have HW3 := Lib.hid (hw3.trans (by rw [hw2] : _ = (w1.alloc (.cells #[.pointer (some ⟨g, 0, none⟩)] 24)).alloc (.cells #[.slice none 0 0] 29)))
    obtain ⟨g2, hg2⟩ : ∃ x, x = w2.heap.size := ⟨_, rfl⟩
    have HG2 := Lib.hid (hg2.trans e2)
    rw [← hg2] at HB
    clear hw2 hw3 e2 a1 a2 n1 n2 hs2 B2 hs BK hb1 hg hg2
    go_wp2_with fail
    go_loopw [6, 7, 8] (fun vs vt t wr => ∃ (i m : Nat) (G : Nat → Nat) (S : Nat → List Int) (X : Nat → Value), i ≤ n ∧ t = .int .i64 (i : Int) ∧ Hid (Book w.heap.size wr.heap.size h wr vs vt m m G S S X) ∧ 0 < m ∧ m ≤ i + 1 ∧ Hid (∀ j, j < m → (S j).length ≤ 2097152 * i) ∧ Below w.heap.size w wr) (fun _ _ t _ => n - (intOf t).toNat)
    case atStart => exact ⟨0, 1, _, _, _, by omega, rfl, by rw [← HW3.out]; first | exact HB | (rw [HG2.out] at HB; exact HB) | (have := HB; simpa [HG2.out] using this), by omega, by omega, Lib.hid (fun _ _ => by simp), by rw [← HW3.out]; exact B3⟩
    case round =>
      clear HB B3 HW3 HG2
      obtain ⟨i, m, G, S, X, hi, rfl, HB, hm, hmi, HL, hB⟩ := hrel
      obtain ⟨gs, cs, rfl, hcs, -⟩ := HB.out.slS hm
      obtain ⟨gt, ct, rfl, hct, -⟩ := HB.out.slT hm
      have mz : m ≤ 1048577 := by omega
      by_cases hlt : i < n
      · skip
        have hd : decide ((i : Int) < (n : Int)) = true := decide_eq_true (by omega)
        have hii : (i : Int) < (n : Int) := by omega
        obtain ⟨b, off, rfl, hc⟩ := (sc.below hB).at_ (by have := HN.out; omega)
        obtain ⟨x0, x1, x2⟩ := hc i (by have := HN.out; omega)
        obtain ⟨o, ho⟩ : ∃ o, o = ops[i]'(by have := HN.out; omega) := ⟨_, rfl⟩
        have hmem : o ∈ ops := by rw [ho]; exact List.getElem_mem _
        rw [← ho] at x0 x1 x2
        have sp := sc.sl o hmem
        have up := sc.u8 o hmem
        have rg := sc.rng o hmem
        have lp := HX.out o hmem
        clear hc ho hmem
        obtain ⟨k, wh, p⟩ := o
        replace x0 : wr.cell? ⟨b, off + i * 3, none⟩ = some (.int .i64 k) := x0
        replace x1 : wr.cell? ⟨b, off + i * 3 + 1, none⟩ = some (.int .i64 wh) := x1
        replace x2 : wr.cell? ⟨b, off + i * 3 + 2, none⟩ = some p.val := x2
        replace sp : Sl .u8 w p.a p.cap p.xs := sp
        replace up : U8 p.xs := up
        replace rg : -9223372036854775808 ≤ wh ∧ wh ≤ 9223372036854775807 := rg
        replace lp : p.xs.length ≤ 1048576 := lp
        obtain ⟨pa, pc, bs⟩ := p
        replace x2 : wr.cell? ⟨b, off + i * 3 + 2, none⟩ = some (.slice pa bs.length pc) := x2
        replace sp : Sl .u8 w pa pc bs := sp
        replace up : U8 bs := up
        replace lp : bs.length ≤ 1048576 := lp
        have al := (Below.refl wr.heap.size wr).alloc (Nat.le_refl _) (.cells #[.int .i64 k, .int .i64 wh, .slice pa bs.length pc] 31)
        have hO : OpAt 31 (wr.alloc (.cells #[.int .i64 k, .int .i64 wh, .slice pa bs.length pc] 31)) wr.heap.size k wh ⟨pa, pc, bs⟩ := Go.heap_alloc_new wr _
        have HB1 := Lib.hid ((HB.out.below al).mono al.size)
        have hB1 := hB.trans (al.mono hB.size)
        obtain ⟨w1, hw1⟩ : ∃ W, W = wr.alloc (.cells #[.int .i64 k, .int .i64 wh, .slice pa bs.length pc] 31) := ⟨_, rfl⟩
        have HW1 := Lib.hid hw1
        rw [← hw1] at HB1 hB1 hO
        obtain ⟨go, hgo⟩ : ∃ x, x = wr.heap.size := ⟨_, rfl⟩
        have HGO := Lib.hid hgo
        rw [← hgo] at hO
        have HO := Lib.hid hO
        obtain ⟨N, hN⟩ : ∃ x, x = w1.heap.size := ⟨_, rfl⟩
        rw [← hN] at HB1
        have goN : go < N := by rw [hN]; exact hO.lt
        have HNN := Lib.hid hN
        obtain ⟨q, hq⟩ : ∃ q : Nat, pickI wh (m : Int) = (q : Int) := ⟨(pickI wh (m : Int)).toNat, by have := (pickI_rng wh m (by omega)).1; omega⟩
        have hqm : q < m := by have := (pickI_rng wh m (by omega)).2; omega
        have pk := pick_c wh (m : Int) w1 rg (by omega) (by omega)
        rw [hq] at pk
        have y1 := hO.c1
        clear hw1 al hO hgo hq hN
        have hqi : (q : Int) < (m : Int) := by omega
        go_wp2_with fail
        rw [← HW1.out, ← HGO.out]
        refine pk.mono ?_; rintro e_ w1_ ⟨rfl, rfl⟩
        have y0 := HO.out.c0
        clear pk x0 x1 x2 y1
        by_cases k1 : k = 1
        · subst k1
          have y2 := HO.out.c2
          replace y2 : w1.cell? ⟨go, 2, none⟩ = some (.slice pa bs.length pc) := y2
          have rm := roomy_c pa pc bs w1 (sp.below hB1) (by omega)
          unfold RoomPost at rm
          obtain ⟨y, hy⟩ : ∃ y, y = bs.length := ⟨_, rfl⟩
          have HY := Lib.hid hy
          have ly : y ≤ 1048576 := by omega
          rw [← hy] at rm y2
          clear hy lp
          go_wp2_with fail
          refine rm.mono ?_; rintro e_ w2 ⟨gg, rfl, hgg, kg, hb2⟩
          have hNg : N ≤ gg := by rw [HNN.out]; exact hgg
          have hb2N : Below N w1 w2 := hb2.mono (Nat.le_of_eq HNN.out)
          have HB2 := Lib.hid (HB1.out.below hb2N)
          have hO2 := HO.out.below hb2N goN
          have hB2 := hB1.trans (hb2.mono hB1.size)
          clear rm y0 y2 hb2 hb2N hgg
          -- the first Write
          have cw := Write_c (G q) h (S q) (some ⟨gg, 0, none⟩) (y + 9) bs w2 (HB2.out.st q hqm) (by have := blk_sl kg (by rw [← HY.out]; omega); rwa [← HY.out] at this) up (fun b off e _ => by cases e; have := (HB2.out.own q hqm).2; omega) (ht.below hB2)
          unfold WritePost at cw
          rw [← HY.out] at cw
          have s1 := HB2.out.cellsS hqm
          obtain ⟨gq, hgq⟩ : ∃ x, x = G q := ⟨_, rfl⟩
          rw [← hgq] at cw s1
          have HGQ := Lib.hid hgq
          clear hgq
          go_wp2_with fail
          refine cw.mono ?_; rintro e_ w3 ⟨rfl, st3, hg3⟩
          rw [HGQ.out] at st3 hg3
          have HB3 := Lib.hid (HB2.out.write hqm st3 hg3)
          have hO3 := hO2.grown hg3 (fun e => (show Typ w2 go 31 from ⟨_, _, hO2⟩).ne (HB2.out.st q hqm).typ (by decide) (Option.some.inj e))
          have kg3 := kg.grown hg3 (fun e => by have := Option.some.inj e; have := (HB2.out.own q hqm).2; omega)
          have hB3 := hB2.grown hg3 hB2.size (fun x hx => by cases hx; exact (HB2.out.own q hqm).1)
          clear cw s1 st3 hg3 HB2 hB2 hO2 kg
          obtain ⟨S1, hS1⟩ : ∃ f, f = (fun j => if j = q then S q ++ bs else S j) := ⟨_, rfl⟩
          rw [← hS1] at HB3
          have HS1 := Lib.hid hS1
          clear hS1
          -- spared
          have y2 := hO3.c2
          replace y2 : w3.cell? ⟨go, 2, none⟩ = some (.slice pa bs.length pc) := y2
          have spc := spared_c gg pa pc bs w3 kg3 (sp.below hB3) up (by rw [← HY.out]; omega)
          rw [← HY.out] at spc y2
          go_wp2_with fail
          refine spc.mono ?_; rintro e_ w4 ⟨rfl, hb4⟩
          have N3 : N ≤ w3.heap.size := Nat.le_trans hNg (Nat.le_of_lt kg3.lt)
          have hb4N := hb4.mono N3
          have HB4 := Lib.hid (HB3.out.below hb4N)
          have hO4 := Lib.hid (hO3.below hb4N goN)
          have kg4 := kg3.below hb4 kg3.lt
          have hB4 := hB3.trans (hb4.mono hB3.size)
          have y0len : Hid ((bs ++ m9).length = y + 9 ∧ (bs ++ m9).take 0 = List.replicate 0 77) := Lib.hid ⟨by rw [List.length_append, ← HY.out]; rfl, by simp⟩
          have rf4 := Below.refl N w4
          have hwg : w.heap.size ≤ gg := by have := hB1.size; rw [← HNN.out] at this; omega
          clear spc y2 hb4 hb4N HB3 hO3 kg3 hB3 N3
          go_wp2_with fail
          go_loopw [12] (fun t wq => ∃ (j : Nat) (Y : List Int), j ≤ y ∧ t = .int .i64 (j : Int) ∧ Blk wq gg .u8 5 Y ∧ Hid (Y.length = y + 9 ∧ Y.take j = List.replicate j 77) ∧ Below N w4 wq ∧ Below w.heap.size w wq) (fun t _ => y - (intOf t).toNat)
          case atStart => exact ⟨0, _, by omega, rfl, kg4, y0len, rf4, hB4⟩
          case round =>
            clear kg4 y0len rf4 hB4
            obtain ⟨j, Y, hj, rfl, kg, hY, hbN, hBq⟩ := hrel
            by_cases hjy : j < y
            · have hdj : decide ((j : Int) < (y : Int)) = true := decide_eq_true (by omega)
              have hji : (j : Int) < (y : Int) := by omega
              have cj := kg.cell j (by rw [hY.out.1]; omega)
              have fj := kg.free j
              have kg' := kg.set j 77
              have hY' : Hid ((Y.set j 77).length = y + 9 ∧ (Y.set j 77).take (j + 1) = List.replicate (j + 1) 77) := Lib.hid ⟨by rw [List.length_set]; exact hY.out.1, take_set_rep (by rw [hY.out.1]; omega) hY.out.2⟩
              have hbN' := hbN.setCell (p := ⟨gg, j, none⟩) hNg (.int .u8 77)
              have hBq' := hBq.setCell (p := ⟨gg, j, none⟩) hwg (.int .u8 77)
              clear kg hY hbN hBq
              go_wp2_with fail
              go_roundw
              case rel => exact ⟨j + 1, _, by omega, by go_num, kg', hY', hbN', hBq'⟩
              case measure => simp [intOf]; omega
            · obtain rfl : j = y := by omega
              have hdj : decide ((j : Int) < (j : Int)) = false := by simp
              have HB5 := Lib.hid (HB4.out.below hbN)
              have hO5 := Lib.hid (hO4.out.below hbN goN)
              clear HB4 hO4
              obtain ⟨w5, rfl⟩ : ∃ x, x = wr := ⟨_, rfl⟩
              -- more: the text so far, the bytes
              obtain ⟨ax, cx, hXq, sX⟩ := (HB5.out.tx q hqm).sl
              have uX := HB5.out.u8 q hqm
              have lX := HL.out q hqm
              have t1 := HB5.out.cellsT hqm
              rw [hXq] at t1
              obtain ⟨L, hL⟩ : ∃ l, l = S q := ⟨_, rfl⟩
              rw [← hL] at t1 sX uX lX
              have HLq := Lib.hid hL
              have N5 : N ≤ w5.heap.size := Nat.le_trans hNg (Nat.le_of_lt kg.lt)
              have g5 := kg.lt
              obtain ⟨lx, hlx⟩ : ∃ l, l = L.length := ⟨_, rfl⟩
              rw [← hlx] at t1 lX
              have HLX := Lib.hid hlx
              have lX2 : lx ≤ 2199023255552 := by omega
              have rf5 := Below.refl w5.heap.size w5
              clear hL hlx lX
              go_wp2_with (at_builtin; refine wpList_append_new _ rfl _ _ 29 rfl w5.heap.size 5 .u8 1 Tryd.underlying29 infoU8 _ [] rfl (New.nil _ _ _ _) _ _ _ L rfl HLX.out sX.cells (by rw [← HLX.out]; simp; omega) (by rw [← HLX.out]; simp; omega) (Nat.le_refl _) ?_)
              intro v6 w6 n6 hg6 _
              have hb6 : Below w5.heap.size w5 w6 := rf5.grown hg6 (Nat.le_refl _) (fun g hg => by simp [Value.ownBlock] at hg)
              replace n6 : New w5.heap.size .u8 5 w6 v6 L := n6
              have hO6 := hO5.out.below hb6 (by omega)
              have y2 := hO6.c2
              replace y2 : w6.cell? ⟨go, 2, none⟩ = some (.slice pa bs.length pc) := y2
              rw [← HY.out] at y2
              have hB6 := hBq.trans (hb6.mono hBq.size)
              have sp6 := sp.below hB6
              clear sX t1 hg6 rf5
              go_wp2_with (at_builtin; refine wpList_append_new _ rfl _ _ 29 rfl w5.heap.size 5 .u8 1 Tryd.underlying29 infoU8 _ L rfl n6 _ _ _ bs rfl HY.out sp6.cells (by rw [← HLX.out, ← HY.out]; omega) (by rw [← HLX.out, ← HY.out]; omega) hb6.size ?_)
              intro v7 w7 n7 hg7 _
              have hb7 : Below w5.heap.size w5 w7 := hb6.grown hg7 hb6.size (fun g hg => (n6.lt g hg).1)
              have HB7 := Lib.hid (HB5.out.below (hb7.mono N5))
              have hO7 := hO5.out.below hb7 (by omega)
              have kg7 := kg.below hb7 g5
              have hB7 := hBq.trans (hb7.mono hBq.size)
              clear y2 hO6 hB6 sp6 hg7 n6 hb6 HB5 hO5 kg hBq
              obtain ⟨M, hM⟩ : ∃ l, l = L ++ bs := ⟨_, rfl⟩
              rw [← hM] at n7
              have HM := Lib.hid hM
              have uM : U8 M := by rw [hM]; exact uX.append (by omega) up
              have lM : Hid (M.length = lx + j) := Lib.hid (by rw [hM, List.length_append, ← HLX.out, ← HY.out])
              clear hM uX
              -- the second Write
              have sg7 : Sl .u8 w7 (some ⟨gg, 0, none⟩) (j + 9) (List.replicate j 77) := by
                have := kg7.sl j (j + 9) (by omega) (by omega)
                rw [hY.out.2] at this
                exact this
              have S1q : S1 q = L ++ bs := by rw [HS1.out, HLq.out]; simp
              have cw := Write_c (G q) h (S1 q) (some ⟨gg, 0, none⟩) (j + 9) (List.replicate j 77) w7 (HB7.out.st q hqm) sg7 (rep_u8 _ _ (by omega)) (fun b off e _ => by cases e; have := (HB7.out.own q hqm).2; omega) (ht.below hB7)
              unfold WritePost at cw
              rw [List.length_replicate] at cw
              have s1 := HB7.out.cellsS hqm
              obtain ⟨gq, hgq⟩ : ∃ x, x = G q := ⟨_, rfl⟩
              rw [← hgq] at cw s1
              have HGQ := Lib.hid hgq
              have HSQ := Lib.hid S1q
              clear hgq S1q
              go_wp2_with fail
              refine cw.mono ?_; rintro e_ w8 ⟨rfl, st8, hg8⟩
              rw [HGQ.out] at st8 hg8
              rw [HSQ.out] at st8
              have HB8 := Lib.hid (HB7.out.write hqm st8 hg8)
              have tyq := (HB7.out.st q hqm).typ
              have kg8 := kg7.grown hg8 (fun e => by have := Option.some.inj e; have := (HB7.out.own q hqm).2; omega)
              have n8 := n7.kept hg8 (own_off (fun g => n7.typ) tyq (by decide))
              have hB8 := hB7.grown hg8 hB7.size (fun x hx => by cases hx; exact (HB7.out.own q hqm).1)
              have lt8 : w5.heap.size ≤ w8.heap.size := Nat.le_trans hb7.size hg8.size
              have hY8 : Hid (Y.length = j + 9) := Lib.hid hY.out.1
              have rf8 := Below.refl N w8
              have n80 : New w5.heap.size .u8 5 w8 v7 (M ++ List.replicate 0 77) := by rw [show List.replicate 0 (77 : Int) = [] from rfl, List.append_nil]; exact n8
              have w5w : w.heap.size ≤ w5.heap.size := by omega
              clear cw s1 st8 hg8 HB7 hO7 kg7 n7 hB7 hb7 sg7 tyq hY n8
              go_wp2_with fail
              go_loopw [13, 14] (fun mv t wq => ∃ (r : Nat) (Y : List Int), r ≤ j ∧ t = .int .i64 (r : Int) ∧ New w5.heap.size .u8 5 wq mv (M ++ List.replicate r 77) ∧ Blk wq gg .u8 5 Y ∧ Hid (Y.length = j + 9) ∧ Below N w8 wq ∧ Below w.heap.size w wq ∧ w5.heap.size ≤ wq.heap.size) (fun _ t _ => j - (intOf t).toNat)
              case atStart => exact ⟨0, Y, by omega, rfl, n80, kg8, hY8, rf8, hB8, lt8⟩
              case round =>
                clear n80 kg8 hY8 rf8 hB8 lt8
                obtain ⟨r, Y, hrj, rfl, nm, kg, hY, hbN, hBq, lt8⟩ := hrel
                obtain ⟨am, cm, rfl, -⟩ := nm.sl
                obtain ⟨zm, hzm⟩ : ∃ z, z = (M ++ List.replicate r 77).length := ⟨_, rfl⟩
                have HZM : Hid (zm = lx + j + r) := Lib.hid (by rw [hzm, List.length_append, lM.out, List.length_replicate])
                rw [← hzm] at nm ⊢
                have HZ0 := Lib.hid hzm
                clear hzm
                by_cases hrjj : r < j
                · have hdj : decide ((r : Int) < (j : Int)) = true := decide_eq_true (by omega)
                  have hji : (r : Int) < (j : Int) := by omega
                  have a9 := (Below.refl wr.heap.size wr).alloc (Nat.le_refl _) (.cells #[.int .u8 77] 5)
                  go_wp2_with (at_builtin; refine wpList_append_new _ rfl _ _ 29 rfl w5.heap.size 5 .u8 1 Tryd.underlying29 infoU8 _ (M ++ List.replicate r 77) rfl (nm.alloc _) _ _ 1 [77] rfl rfl (cells_one _ _ _ _ _ rfl) (by rw [← HZ0.out, HZM.out]; simp; omega) (by rw [← HZ0.out, HZM.out]; simp; omega) (by simp; omega) ?_)
                  intro v9 w9 n9 hg9 _
                  have own9 : ∀ g, (Value.slice am zm cm).ownBlock = some g → w5.heap.size ≤ g := fun g hg => (nm.lt g hg).1
                  have kg9 := (kg.alloc (.cells #[.int .u8 77] 5)).grown hg9 (fun e => by have := own9 gg e.symm; omega)
                  have s9 : (wr.alloc (.cells #[.int .u8 77] 5)).heap.size = wr.heap.size + 1 := by simp
                  have hbN9 := (hbN.alloc (Nat.le_trans (Nat.le_of_lt (Nat.lt_of_le_of_lt hNg kg.lt)) (Nat.le_refl _)) (.cells #[.int .u8 77] 5)).grown hg9 (by have := kg.lt; omega) (fun g hg => by have := own9 g hg; omega)
                  have hB9 := (hBq.alloc hBq.size (.cells #[.int .u8 77] 5)).grown hg9 (by have := hBq.size; omega) (fun g hg => by have := own9 g hg; omega)
                  have lt9 : w5.heap.size ≤ w9.heap.size := by have := hg9.size; omega
                  replace n9 : New w5.heap.size .u8 5 w9 v9 (M ++ List.replicate (r + 1) 77) := by rw [List.replicate_succ']; first | exact n9 | (rw [← List.append_assoc]; exact n9)
                  have cj := kg9.cell r (by rw [hY.out]; omega)
                  have fj := kg9.free r
                  have ow : ∀ g, v9.ownBlock = some g → w5.heap.size ≤ g := fun g hg => (n9.lt g hg).1
                  have n10 := n9.kept (grownBy_set w9 ⟨gg, r, none⟩ (.int .u8 79)) (by
                    cases hv : v9.ownBlock with
                    | none => exact .inl rfl
                    | some g => exact .inr (fun e => by have := ow g hv; have := Option.some.inj e; subst this; omega))
                  have kg10 := kg9.set r 79
                  have hY10 : Hid ((Y.set r 79).length = j + 9) := Lib.hid (by rw [List.length_set]; exact hY.out)
                  have hbN10 := hbN9.setCell (p := ⟨gg, r, none⟩) hNg (.int .u8 79)
                  have hB10 := hB9.setCell (p := ⟨gg, r, none⟩) hwg (.int .u8 79)
                  have lt10 : w5.heap.size ≤ (w9.setCell ⟨gg, r, none⟩ (.int .u8 79)).heap.size := by rw [World.size_setCell]; exact lt9
                  clear nm kg hY hbN hBq lt8 n9 hg9 own9 kg9 s9 hbN9 hB9 lt9 ow a9
                  go_wp2_with fail
                  go_roundw
                  case rel => exact ⟨r + 1, _, by omega, by go_num, n10, kg10, hY10, hbN10, hB10, lt10⟩
                  case measure => simp [intOf]; omega
                · obtain rfl : r = j := by omega
                  have hdj : decide ((r : Int) < (r : Int)) = false := by simp
                  have b9 := HB8.out.below hbN
                  obtain ⟨w9, rfl⟩ : ∃ x, x = wr := ⟨_, rfl⟩
                  have t1 := b9.cellsT hqm
                  rw [hXq] at t1
                  have uN : U8 (M ++ List.replicate r 77) := uM.append (by omega) (rep_u8 _ _ (by omega))
                  have ltm := fun g hg => (nm.lt g hg).2
                  have bt := (b9.mono (show N ≤ w9.heap.size from Nat.le_trans hNg (Nat.le_of_lt kg.lt))).put (i := q) (v := .slice am zm cm) (ys := M ++ List.replicate r 77) hqm (nm.mono w5w) uN rfl ltm
                  obtain ⟨hfz, bt⟩ := bt
                  have hsz : (w9.setCell ⟨gt, q, none⟩ (.slice am zm cm)).heap.size = w9.heap.size := by rw [World.size_setCell]
                  have fin : Hid (Book w.heap.size (w9.setCell ⟨gt, q, none⟩ (.slice am zm cm)).heap.size h (w9.setCell ⟨gt, q, none⟩ (.slice am zm cm)) (.slice (some ⟨gs, 0, none⟩) m cs) (.slice (some ⟨gt, 0, none⟩) m ct) m m G (fun j => if j = q then M ++ List.replicate r 77 else S j) (fun j => if j = q then M ++ List.replicate r 77 else S j) (fun j => if j = q then .slice am zm cm else X j)) := Lib.hid (by
                    rw [hsz]
                    refine bt.congr (fun j hj => ?_) (fun j hj => rfl)
                    by_cases e : j = q
                    · simp only [e, if_true]; rw [HM.out]
                    · simp only [e, if_false]; rw [HS1.out]; simp only [e, if_false])
                  have len : Hid (∀ j, j < m → (if j = q then M ++ List.replicate r 77 else S j).length ≤ 2097152 * (i + 1)) := Lib.hid fun j hj => by
                    by_cases e : j = q
                    · simp only [e, if_true]
                      have h1 := HL.out q hqm
                      rw [← HLq.out, ← HLX.out] at h1
                      rw [← HZ0.out, HZM.out]
                      omega
                    · simp only [e, if_false]
                      have := HL.out j hj
                      omega
                  have gtw : w.heap.size ≤ gt := (b9.rt.lt gt rfl).1
                  have hBz := hBq.setCell (p := ⟨gt, q, none⟩) gtw (.slice am zm cm)
                  clear b9 bt hsz nm kg hbN hBq HB8 uN ltm gtw
                  go_wp2_with fail
                  go_roundw
                  case rel => exact ⟨i + 1, m, G, _, _, by omega, by go_num, fin, hm, by omega, len, hBz⟩
                  case measure => simp [intOf]; omega
        · have k1' : (k == 1) = false := by simpa using k1
          by_cases k2 : k = 2
          · subst k2
            have lS := HL.out q hqm
            obtain ⟨L, hL⟩ : ∃ l, l = S q := ⟨_, rfl⟩
            have cs_ := StSum_c (G q) h (S q) w1 (HB1.out.st q hqm) (by omega) (ht.below hB1)
            unfold SumPost at cs_
            obtain ⟨D, hD⟩ : ∃ d, d = sha h (S q) := ⟨_, rfl⟩
            rw [← hD] at cs_
            have uD : U8 D := by rw [hD]; exact sha_u8 _ _
            have s1 := HB1.out.cellsS hqm
            obtain ⟨gq, hgq⟩ : ∃ x, x = G q := ⟨_, rfl⟩
            rw [← hgq] at cs_ s1
            have HD := Lib.hid hD
            have HLq := Lib.hid hL
            rw [← hL] at lS
            clear hD hL hgq
            go_wp2_with fail
            refine cs_.mono ?_; rintro e_ w2 ⟨v2, rfl, nb, hb2⟩
            have hb2N : Below N w1 w2 := hb2.mono (Nat.le_of_eq HNN.out)
            have B2 := HB1.out.below hb2N
            have hB2 := hB1.trans (hb2.mono hB1.size)
            obtain ⟨ab, cb, rfl, sb⟩ := nb.sl
            obtain ⟨ax, cx, hXq, sX⟩ := (B2.tx q hqm).sl
            have uX := B2.u8 q hqm
            have t1 := B2.cellsT hqm
            rw [hXq] at t1
            have cr := rSum_c h ax cx (S q) w2 sX uX (by rw [← HLq.out]; omega) (hr.below hB2)
            rw [← HD.out, ← HLq.out] at cr
            rw [← HLq.out] at t1
            unfold BytesPost at cr
            obtain ⟨lx, hlx⟩ : ∃ l, l = L.length := ⟨_, rfl⟩
            rw [← hlx] at t1 cr
            have HB2 := Lib.hid B2
            clear cs_ s1 hlx sX uX B2 lS
            obtain ⟨z0, hz0⟩ : ∃ z, z = D.length := ⟨_, rfl⟩
            have HZ := Lib.hid hz0
            rw [← hz0] at nb ⊢
            clear hz0
            go_wp2_with fail
            refine cr.mono ?_; rintro e_ w3 ⟨v3, rfl, nc, hb3⟩
            obtain ⟨ac, cc, rfl, sc3⟩ := nc.sl
            have cm := same4_c ab ac cb cc D D w3 (sb.below hb3) sc3 uD uD
            rw [show decide (D = D) = true from decide_eq_true rfl, ← HZ.out] at cm
            rw [← HZ.out]
            clear cr t1
            go_wp2_with fail
            refine cm.mono ?_; rintro e_ w4 ⟨rfl, hb4⟩
            have hb24 := hb3.trans (hb4.mono hb3.size)
            have HB4 := Lib.hid (HB2.out.below (hb24.mono (by rw [HNN.out]; exact hb2.size)))
            have hB4 := hB2.trans (hb24.mono hB2.size)
            have nb4 : New N .u8 5 w4 (.slice ab z0 cb) D := (nb.mono (Nat.le_of_eq HNN.out)).keep hb24
            have lD : Hid (D.length = z0) := Lib.hid HZ.out.symm
            have rf4 := Below.refl N w4
            have wN : w.heap.size ≤ N := by rw [HNN.out]; exact hB1.size
            have N4 : N ≤ w4.heap.size := Nat.le_trans (by rw [HNN.out]; exact hb2.size) hb24.size
            have zz : (z0 : Int) ≤ 9223372036854775807 := by have := sb.le; have := sb.max; have := HZ.out; omega
            clear cm nc sc3 sb hb3 hb4 hb24 HB2 hB2 nb hb2 hb2N
            go_wp2_with fail
            go_loopw [16] (fun t wq => ∃ (j : Nat) (Y : List Int), j ≤ z0 ∧ t = .int .i64 (j : Int) ∧ New N .u8 5 wq (.slice ab z0 cb) Y ∧ Hid (Y.length = z0) ∧ Below N w4 wq ∧ Below w.heap.size w wq ∧ N ≤ wq.heap.size) (fun t _ => z0 - (intOf t).toNat)
            case atStart => exact ⟨0, D, by omega, rfl, nb4, lD, rf4, hB4, N4⟩
            case round =>
              clear nb4 lD rf4 hB4 N4
              obtain ⟨j, Y, hj, rfl, nb, hY, hbN, hBq, N4⟩ := hrel
              by_cases hjz : j < z0
              · have hdj : decide ((j : Int) < (z0 : Int)) = true := decide_eq_true (by omega)
                have hji : (j : Int) < (z0 : Int) := by omega
                obtain ⟨gb, c2, hv, hBb, hp⟩ := nb.pre (by rw [hY.out]; omega)
                rw [hY.out] at hv
                simp only [Value.slice.injEq] at hv
                obtain ⟨rfl, -, rfl⟩ := hv
                have cj := hp.cell j (by rw [hY.out]; omega)
                have fj := hp.free j
                have nb' := (hp.set j 78).new hBb
                rw [List.length_set, hY.out] at nb'
                have hY' : Hid ((Y.set j 78).length = z0) := Lib.hid (by rw [List.length_set]; exact hY.out)
                have hbN' := hbN.setCell (p := ⟨gb, j, none⟩) hBb (.int .u8 78)
                have hBq' := hBq.setCell (p := ⟨gb, j, none⟩) (Nat.le_trans wN hBb) (.int .u8 78)
                have N4' : N ≤ (wr.setCell ⟨gb, j, none⟩ (.int .u8 78)).heap.size := by rw [World.size_setCell]; exact N4
                clear nb hY hbN hBq hp
                go_wp2_with fail
                go_roundw
                case rel => exact ⟨j + 1, _, by omega, by go_num, nb', hY', hbN', hBq', N4'⟩
                case measure => simp [intOf]; omega
              · obtain rfl : j = z0 := by omega
                have hdj : decide ((j : Int) < (j : Int)) = false := by simp
                have fin := Lib.hid ((HB4.out.below hbN).mono N4)
                have len : Hid (∀ j, j < m → (S j).length ≤ 2097152 * (i + 1)) := Lib.hid fun j hj => by have := HL.out j hj; omega
                clear HB4 hbN nb hY
                go_wp2_with fail
                go_roundw
                case rel => exact ⟨i + 1, m, G, _, _, by omega, by go_num, fin, hm, by omega, len, hBq⟩
                case measure => simp [intOf]; omega
          · have k2' : (k == 2) = false := by simpa using k2
            by_cases k3 : k = 3
            · subst k3
              have cc_ := Copy_c (G q) h (S q) w1 (HB1.out.st q hqm)
              have s1 := HB1.out.cellsS hqm
              obtain ⟨gq, hgq⟩ : ∃ x, x = G q := ⟨_, rfl⟩
              rw [← hgq] at cc_ s1
              clear hgq
              go_wp2_with fail
              refine cc_.mono ?_; rintro e_ w2 ⟨g2, rfl, hg2, st2, hb2⟩
              have hb2N : Below N w1 w2 := hb2.mono (Nat.le_of_eq HNN.out)
              have B2 := HB1.out.below hb2N
              have hB2 := hB1.trans (hb2.mono hB1.size)
              have g2N : N ≤ g2 := by rw [HNN.out]; exact hg2
              clear cc_ s1
              have al3 := (Below.refl w2.heap.size w2).alloc (Nat.le_refl _) (.cells #[.pointer (some ⟨g2, 0, none⟩)] 24)
              have N2 : N ≤ w2.heap.size := by rw [HNN.out]; exact hb2.size
              have B3 := (B2.mono N2).below al3
              have st3 := st2.keep al3
              have hB3 := hB2.trans (al3.mono hB2.size)
              have rs3 := B3.rs
              have lr : ((List.range m).map fun i => Value.pointer (some ⟨G i, 0, none⟩)).length = m := by simp
              obtain ⟨R, hR⟩ : ∃ r, r = ((List.range m).map fun i => Value.pointer (some ⟨G i, 0, none⟩)) := ⟨_, rfl⟩
              rw [← hR] at rs3 lr
              have HR := Lib.hid hR
              have LR := Lib.hid lr
              have HB3 := Lib.hid B3
              have wg2 : w.heap.size ≤ g2 := Nat.le_trans (by have := hB1.size; rw [← HNN.out] at this; exact this) g2N
              have nG : Hid (∀ j, j < m → G j ≠ g2) := Lib.hid fun j hj e => by have := (HB1.out.own j hj).2; omega
              have W3s : w.heap.size ≤ (w2.alloc (.cells #[.pointer (some ⟨g2, 0, none⟩)] 24)).heap.size := hB3.size
              have lt3 := fun g hg => (rs3.lt g hg).1
              clear hR lr B3 B2 al3 st2 hB2
              go_wp2_with (at_builtin; refine wpList_append_newX _ rfl _ _ 27 rfl w.heap.size 24 8 (.pointer none) rfl Tryd.underlying27 infoP _ R rfl rs3 _ 1 (.pointer (some ⟨g2, 0, none⟩)) rfl rfl (cell_new1 _ _ _ _) (by rw [LR.out]; omega) (by rw [LR.out]; omega) W3s ?_)
              intro v4 w4 n4 hg4 _
              rw [HR.out] at n4
              have B4 := HB3.out.pushS n4 hg4 st3 wg2 nG.out
              have hB4 := hB3.grown hg4 hB3.size lt3
              clear n4 hg4 st3 HB3 rs3 hB3 lt3 W3s
              obtain ⟨ax, cx, hXq, -⟩ := (B4.tx q hqm).sl
              have u4 := B4.tx q hqm
              have v8 := B4.u8 q hqm
              have t1 := B4.cellsT hqm
              rw [hXq] at t1 u4
              obtain ⟨lx, hlx⟩ : ∃ l, l = (S q).length := ⟨_, rfl⟩
              rw [← hlx] at t1 u4
              have HLX := Lib.hid hlx
              clear hlx
              have al5 := (Below.refl w4.heap.size w4).alloc (Nat.le_refl _) (.cells #[(.slice ax lx cx)] 29)
              have B5 := B4.below al5
              have u5 := u4.keep al5
              have hB5 := hB4.trans (al5.mono hB4.size)
              have rt5 := B5.rt
              have lr : ((List.range m).map X).length = m := by simp
              obtain ⟨R2, hR2⟩ : ∃ r, r = (List.range m).map X := ⟨_, rfl⟩
              rw [← hR2] at rt5 lr
              have HR2 := Lib.hid hR2
              have LR2 := Lib.hid lr
              have HB5 := Lib.hid B5
              have W5s : w.heap.size ≤ (w4.alloc (.cells #[(.slice ax lx cx)] 29)).heap.size := hB5.size
              have lt5 := fun g hg => (rt5.lt g hg).1
              obtain ⟨av4, cv4, hv4⟩ := B4.rs.sl
              have hl4 : ((List.range (m + 1)).map fun i => Value.pointer (some ⟨if i < m then G i else g2, 0, none⟩)).length = m + 1 := by simp
              rw [hl4] at hv4
              clear hR2 lr B5 B4 al5 u4 hB4 hl4
              subst hv4
              go_wp2_with (at_builtin; refine wpList_append_newV _ rfl _ _ 28 rfl w.heap.size 29 24 Tryd.underlying28 infoSl _ R2 rfl rt5 _ 1 (.slice ax lx cx) ⟨_, _, _, rfl⟩ rfl (cell_new1 _ _ _ _) (by rw [LR2.out]; omega) (by rw [LR2.out]; omega) W5s ?_)
              intro v6 w6 n6 hg6 _
              rw [HR2.out] at n6
              have B6 := HB5.out.pushT n6 hg6 u5 v8
              have hB6 := hB5.grown hg6 hB5.size lt5
              have fin : Hid (Book w.heap.size w6.heap.size h w6 (.slice av4 (m + 1) cv4) v6 (m + 1) (m + 1) (fun k => if k < m then G k else g2) (fun k => if k < m then S k else (S q)) (fun k => if k < m then S k else (S q)) (fun k => if k < m then X k else (.slice ax lx cx))) := Lib.hid B6
              have len : Hid (∀ j, j < m + 1 → (if j < m then S j else (S q)).length ≤ 2097152 * (i + 1)) := Lib.hid fun j hj => by
                by_cases e : j < m
                · simp only [e, if_true]; have := HL.out j e; omega
                · simp only [e, if_false]; have := HL.out q hqm; omega
              clear n6 hg6 B6 HB5 rt5 hB5 lt5 W5s u5
              try clear t1
              go_wp2_with fail
              go_roundw
              case rel => exact ⟨i + 1, m + 1, _, _, _, by omega, by go_num, fin, by omega, by omega, len, hB6⟩
              case measure => simp [intOf]; omega
            · have k3' : (k == 3) = false := by simpa using k3
              by_cases k4 : k = 4
              · subst k4
                have cn := New_c h HH.out w1 (ht.below hB1)
                go_wp2_with fail
                refine cn.mono ?_; rintro e_ w2 ⟨g2, rfl, hg2, st2, hb2⟩
                have hb2N : Below N w1 w2 := hb2.mono (Nat.le_of_eq HNN.out)
                have B2 := HB1.out.below hb2N
                have hB2 := hB1.trans (hb2.mono hB1.size)
                have g2N : N ≤ g2 := by rw [HNN.out]; exact hg2
                clear cn
                have al3 := (Below.refl w2.heap.size w2).alloc (Nat.le_refl _) (.cells #[.pointer (some ⟨g2, 0, none⟩)] 24)
                have N2 : N ≤ w2.heap.size := by rw [HNN.out]; exact hb2.size
                have B3 := (B2.mono N2).below al3
                have st3 := st2.keep al3
                have hB3 := hB2.trans (al3.mono hB2.size)
                have rs3 := B3.rs
                have lr : ((List.range m).map fun i => Value.pointer (some ⟨G i, 0, none⟩)).length = m := by simp
                obtain ⟨R, hR⟩ : ∃ r, r = ((List.range m).map fun i => Value.pointer (some ⟨G i, 0, none⟩)) := ⟨_, rfl⟩
                rw [← hR] at rs3 lr
                have HR := Lib.hid hR
                have LR := Lib.hid lr
                have HB3 := Lib.hid B3
                have wg2 : w.heap.size ≤ g2 := Nat.le_trans (by have := hB1.size; rw [← HNN.out] at this; exact this) g2N
                have nG : Hid (∀ j, j < m → G j ≠ g2) := Lib.hid fun j hj e => by have := (HB1.out.own j hj).2; omega
                have W3s : w.heap.size ≤ (w2.alloc (.cells #[.pointer (some ⟨g2, 0, none⟩)] 24)).heap.size := hB3.size
                have lt3 := fun g hg => (rs3.lt g hg).1
                clear hR lr B3 B2 al3 st2 hB2
                go_wp2_with (at_builtin; refine wpList_append_newX _ rfl _ _ 27 rfl w.heap.size 24 8 (.pointer none) rfl Tryd.underlying27 infoP _ R rfl rs3 _ 1 (.pointer (some ⟨g2, 0, none⟩)) rfl rfl (cell_new1 _ _ _ _) (by rw [LR.out]; omega) (by rw [LR.out]; omega) W3s ?_)
                intro v4 w4 n4 hg4 _
                rw [HR.out] at n4
                have B4 := HB3.out.pushS n4 hg4 st3 wg2 nG.out
                have hB4 := hB3.grown hg4 hB3.size lt3
                clear n4 hg4 st3 HB3 rs3 hB3 lt3 W3s
                have u4 : New w.heap.size .u8 5 w4 (.slice none 0 0) [] := .nil _ _ _ _
                have v8 : U8 ([] : List Int) := .nil (by omega)
                have al5 := (Below.refl w4.heap.size w4).alloc (Nat.le_refl _) (.cells #[(.slice none 0 0)] 29)
                have B5 := B4.below al5
                have u5 := u4.keep al5
                have hB5 := hB4.trans (al5.mono hB4.size)
                have rt5 := B5.rt
                have lr : ((List.range m).map X).length = m := by simp
                obtain ⟨R2, hR2⟩ : ∃ r, r = (List.range m).map X := ⟨_, rfl⟩
                rw [← hR2] at rt5 lr
                have HR2 := Lib.hid hR2
                have LR2 := Lib.hid lr
                have HB5 := Lib.hid B5
                have W5s : w.heap.size ≤ (w4.alloc (.cells #[(.slice none 0 0)] 29)).heap.size := hB5.size
                have lt5 := fun g hg => (rt5.lt g hg).1
                obtain ⟨av4, cv4, hv4⟩ := B4.rs.sl
                have hl4 : ((List.range (m + 1)).map fun i => Value.pointer (some ⟨if i < m then G i else g2, 0, none⟩)).length = m + 1 := by simp
                rw [hl4] at hv4
                clear hR2 lr B5 B4 al5 u4 hB4 hl4
                subst hv4
                go_wp2_with (at_builtin; refine wpList_append_newV _ rfl _ _ 28 rfl w.heap.size 29 24 Tryd.underlying28 infoSl _ R2 rfl rt5 _ 1 (.slice none 0 0) ⟨_, _, _, rfl⟩ rfl (cell_new1 _ _ _ _) (by rw [LR2.out]; omega) (by rw [LR2.out]; omega) W5s ?_)
                intro v6 w6 n6 hg6 _
                rw [HR2.out] at n6
                have B6 := HB5.out.pushT n6 hg6 u5 v8
                have hB6 := hB5.grown hg6 hB5.size lt5
                have fin : Hid (Book w.heap.size w6.heap.size h w6 (.slice av4 (m + 1) cv4) v6 (m + 1) (m + 1) (fun k => if k < m then G k else g2) (fun k => if k < m then S k else []) (fun k => if k < m then S k else []) (fun k => if k < m then X k else (.slice none 0 0))) := Lib.hid B6
                have len : Hid (∀ j, j < m + 1 → (if j < m then S j else []).length ≤ 2097152 * (i + 1)) := Lib.hid fun j hj => by
                  by_cases e : j < m
                  · simp only [e, if_true]; have := HL.out j e; omega
                  · simp only [e, if_false]; simp
                clear n6 hg6 B6 HB5 rt5 hB5 lt5 W5s u5
                go_wp2_with fail
                go_roundw
                case rel => exact ⟨i + 1, m + 1, _, _, _, by omega, by go_num, fin, by omega, by omega, len, hB6⟩
                case measure => simp [intOf]; omega
              · have k4' : (k == 4) = false := by simpa using k4
                have fin := Lib.hid (HB1.out.mono (Nat.le_of_eq HNN.out))
                have len : Hid (∀ j, j < m → (S j).length ≤ 2097152 * (i + 1)) := Lib.hid fun j hj => by have := HL.out j hj; omega
                go_wp2_with fail
                go_roundw
                case rel => exact ⟨i + 1, m, G, _, _, by omega, by go_num, fin, hm, by omega, len, hB1⟩
                case measure => simp [intOf]; omega
      · have hd : decide ((i : Int) < (n : Int)) = false := decide_eq_false (by omega)
        have hii : ¬ (i : Int) < (n : Int) := by omega
        have rf := Below.refl wr.heap.size wr
        obtain ⟨w9, rfl⟩ : ∃ x, x = wr := ⟨_, rfl⟩
        go_wp2_with fail
        go_loopw [19] (fun t wq => ∃ (j : Nat), j ≤ m ∧ t = .int .i64 (j : Int) ∧ Below w9.heap.size w9 wq) (fun t _ => m - (intOf t).toNat)
        case atStart => exact ⟨0, by omega, rfl, rf⟩
        case round =>
          clear rf
          obtain ⟨q, hqm', rfl, hb⟩ := hrel
          by_cases hqm : q < m
          · have hdj : decide ((q : Int) < (m : Int)) = true := decide_eq_true (by omega)
            have hqi : (q : Int) < (m : Int) := by omega
            have hB1 := hB.trans (hb.mono hB.size)
            have B1 := HB.out.below hb
            have lS := HL.out q hqm
            obtain ⟨L, hL⟩ : ∃ l, l = S q := ⟨_, rfl⟩
            have cs_ := StSum_c (G q) h (S q) wr (B1.st q hqm) (by omega) (ht.below hB1)
            unfold SumPost at cs_
            obtain ⟨D, hD⟩ : ∃ d, d = sha h (S q) := ⟨_, rfl⟩
            rw [← hD] at cs_
            have uD : U8 D := by rw [hD]; exact sha_u8 _ _
            have s1 := B1.cellsS hqm
            obtain ⟨gq, hgq⟩ : ∃ x, x = G q := ⟨_, rfl⟩
            rw [← hgq] at cs_ s1
            have HD := Lib.hid hD
            have HLq := Lib.hid hL
            rw [← hL] at lS
            clear hD hL hgq B1
            go_wp2_with fail
            refine cs_.mono ?_; rintro e_ w2 ⟨v2, rfl, nb, hb2⟩
            have hb02 := hb.trans (hb2.mono hb.size)
            have B2 := HB.out.below hb02
            have hB2 := hB1.trans (hb2.mono hB1.size)
            obtain ⟨ab, cb, rfl, sb⟩ := nb.sl
            obtain ⟨ax, cx, hXq, sX⟩ := (B2.tx q hqm).sl
            have uX := B2.u8 q hqm
            have t1 := B2.cellsT hqm
            rw [hXq] at t1
            have cr := rSum_c h ax cx (S q) w2 sX uX (by rw [← HLq.out]; omega) (hr.below hB2)
            rw [← HD.out, ← HLq.out] at cr
            rw [← HLq.out] at t1
            unfold BytesPost at cr
            obtain ⟨lx, hlx⟩ : ∃ l, l = L.length := ⟨_, rfl⟩
            rw [← hlx] at t1 cr
            clear cs_ s1 hlx sX uX B2 lS nb
            obtain ⟨z0, hz0⟩ : ∃ z, z = D.length := ⟨_, rfl⟩
            have HZ := Lib.hid hz0
            rw [← hz0]
            clear hz0
            go_wp2_with fail
            refine cr.mono ?_; rintro e_ w3 ⟨v3, rfl, nc, hb3⟩
            obtain ⟨ac, cc, rfl, sc3⟩ := nc.sl
            have cm := same4_c ab ac cb cc D D w3 (sb.below hb3) sc3 uD uD
            rw [show decide (D = D) = true from decide_eq_true rfl, ← HZ.out] at cm
            rw [← HZ.out]
            clear cr t1
            go_wp2_with fail
            refine cm.mono ?_; rintro e_ w4 ⟨rfl, hb4⟩
            have hb04 := hb02.trans ((hb3.trans (hb4.mono hb3.size)).mono hb02.size)
            clear cm nc sc3 sb hb3 hb4 hb2 hb02 hB2 hB1 hb
            go_wp2_with fail
            go_roundw
            case rel => exact ⟨q + 1, by omega, by go_num, hb04⟩
            case measure => simp [intOf]; omega
          · obtain rfl : q = m := by omega
            have hdj : decide ((q : Int) < (q : Int)) = false := by simp
            go_wp2_with fail
            go_ret
            exact ⟨by first | done | rfl | simp, hB.trans (hb.mono hB.size)⟩
  · have c0 := New_no h hh w
    have sz := fun W => rSize_c h W
    rw [sha_no hh] at sz
    clear hh
    go_enter Tryd.func3, Tryd.ntmps3
    go_wp2_with fail
    refine c0.mono ?_; rintro e_ w1 ⟨rfl, hb1⟩
    clear c0
    go_wp2_with fail
    refine (sz w1).mono ?_; rintro e_ w1_ ⟨rfl, rfl⟩
    go_wp2_with fail
    refine (sz w1).mono ?_; rintro e_ w1_ ⟨rfl, rfl⟩
    go_wp2_with fail
    go_ret
    exact ⟨by first | done | rfl | simp, hb1⟩
end Go.Proofs.YtnlmkikaaifcmaaDoor
