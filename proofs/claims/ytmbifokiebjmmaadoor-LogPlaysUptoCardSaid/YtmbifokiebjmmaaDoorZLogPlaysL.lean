import Derived.Test.YtmbifokiebjmmaaDoorZ27
import Derived.Test.YtmbifokiebjmmaaDoorZ26
/- signetlaw36.LogPlays by its contract. (Printed by gen_logplays.py.) -/
set_option linter.unusedVariables false
set_option linter.unusedSimpArgs false
namespace Go.Proofs.YtmbifokiebjmmaaDoor
open Go.RowKit Go.Sg
/-- What a round begins with. -/
def PlayAt (B g gR : Nat) (hs : List (List Int)) (due : Value) (w : World) : Prop := LogAt B w g hs ∧ NewV B 9 w due (hs.map str) ∧ (∃ R, Blk w gR .u8 5 R ∧ R.length = 200) ∧ B ≤ gR ∧ B ≤ w.heap.size ∧ (∀ d ∈ hs, Dig d)
theorem PlayAt.keep {B g gR : Nat} {hs : List (List Int)} {due : Value} {w w' : World} (h : PlayAt B g gR hs due w) (hb : Below w.heap.size w w') : PlayAt B g gR hs due w' := by
  obtain ⟨h1, h2, ⟨R, h3, h4⟩, h5, h6, h7⟩ := h
  exact ⟨h1.keep hb, h2.keep hb, ⟨R, h3.below hb h3.lt, h4⟩, h5, Nat.le_trans h6 hb.size, h7⟩
set_option maxHeartbeats 16000000 in
set_option maxRecDepth 100000 in
theorem LogPlays_c (A : Option Addr) (ca : Nat) (ops : List (Int × List Int × Int × Int)) (w : World) (sc : Scr w A ca ops) (hz : tot (ops.map fun o => o.2.1) + ops.length ≤ 1048576) (ht : ShaTabs w) (hr : RefTabs w) :
    Calls Tryd.prog 7 #[.slice A ops.length ca] w (TruePost w) := by
  have te : ∀ o ∈ ops, o.2.1.length ≤ 1048576 := fun o ho => by have := tot_le o.2.1 ((List.mem_map (f := fun o : Int × List Int × Int × Int => o.2.1)).2 ⟨o, ho, rfl⟩); omega
  obtain ⟨n, hn⟩ : ∃ n, n = ops.length := ⟨_, rfl⟩
  have HN := Lib.hid hn
  have hnz : n ≤ 1048576 := by omega
  rw [← hn]
  have c0 := LogNew_c w
  clear hn hz
  go_enter Tryd.func7, Tryd.ntmps7
  go_wp2_with fail
  refine c0.mono ?_; rintro e_ w1 ⟨g, rfl, hl1, hb1⟩
  clear c0
  go_wp2_with (refine wpList_make_room _ rfl _ _ 25 rfl 5 .u8 1 Tryd.underlying25 info8S 200 (200 : Int) rfl rfl rfl (by omega) (by omega) ?_)
  intro w2 hk2 hs2 hb2
  have hB2 := hb1.trans (hb2.mono hb1.size)
  have P0 : PlayAt w.heap.size g w1.heap.size [] (.slice none 0 0) w2 := ⟨hl1.keep hb2, .nil _ _ _, ⟨_, hk2, rfl⟩, hb1.size, hB2.size, fun d hd => by cases hd⟩
  obtain ⟨gR, hgR⟩ : ∃ x, x = w1.heap.size := ⟨_, rfl⟩
  rw [← hgR] at P0 ⊢
  clear hl1 hk2 hs2 hb1 hb2 hgR
  go_wp2_with fail
  go_loopw [5, 6] (fun due t wr => ∃ (i : Nat) (hs : List (List Int)), i ≤ n ∧ t = .int .i64 (i : Int) ∧ Hid (PlayAt w.heap.size g gR hs due wr) ∧ hs.length ≤ i ∧ i ≤ 800 ∧ Below w.heap.size w wr) (fun _ t _ => n - (intOf t).toNat)
  case atStart => exact ⟨0, [], by omega, rfl, Lib.hid P0, by simp, by omega, hB2⟩
  case round =>
    clear P0 hB2
    obtain ⟨i, hs, hi, rfl, HP, hsi, hi8, hB⟩ := hrel
    obtain ⟨aD, cD, rfl⟩ := HP.out.2.1.sl
    obtain ⟨z, hzz⟩ : ∃ z, z = hs.length := ⟨_, rfl⟩
    have HZ := Lib.hid hzz
    rw [List.length_map, ← hzz] at HP ⊢
    have zi : z ≤ i := by omega
    clear hzz hsi
    by_cases hlt : i < n
    · have hd : decide ((i : Int) < (n : Int)) = true := decide_eq_true (by omega)
      have hii : (i : Int) < (n : Int) := by omega
      by_cases h8 : i < 800
      · have hd8 : decide ((i : Int) < 800) = true := decide_eq_true (by omega)
        have hi8' : (i : Int) < 800 := by omega
        obtain ⟨b, off, rfl, hc⟩ := (sc.below hB).at_ (by have := HN.out; omega)
        obtain ⟨x0, x1, x2, x3⟩ := hc i (by have := HN.out; omega)
        obtain ⟨o, ho⟩ : ∃ o, o = ops[i]'(by have := HN.out; omega) := ⟨_, rfl⟩
        have hmem : o ∈ ops := by rw [ho]; exact List.getElem_mem _
        rw [← ho] at x0 x1 x2 x3
        have ue : U8 o.2.1 := sc.u8 o hmem
        have le_ : o.2.1.length ≤ 1048576 := te o hmem
        clear hc ho hmem
        obtain ⟨k, e, M, N⟩ := o
        replace x0 : wr.cell? ⟨b, off + i * 4, none⟩ = some (.int .i64 k) := x0
        replace x1 : wr.cell? ⟨b, off + i * 4 + 1, none⟩ = some (str e) := x1
        replace x2 : wr.cell? ⟨b, off + i * 4 + 2, none⟩ = some (.int .i64 M) := x2
        replace x3 : wr.cell? ⟨b, off + i * 4 + 3, none⟩ = some (.int .i64 N) := x3
        replace ue : U8 e := ue
        replace le_ : e.length ≤ 1048576 := le_
        have al := (Below.refl wr.heap.size wr).alloc (Nat.le_refl _) (.cells #[.int .i64 k, str e, .int .i64 M, .int .i64 N] 47)
        have hO : (wr.alloc (.cells #[.int .i64 k, str e, .int .i64 M, .int .i64 N] 47)).heap[wr.heap.size]? = some (.cells #[.int .i64 k, str e, .int .i64 M, .int .i64 N] 47 (0, 0)) := Go.heap_alloc_new wr _
        have HP1 := Lib.hid (HP.out.keep al)
        have hB1 := hB.trans (al.mono hB.size)
        obtain ⟨w1, hw1⟩ : ∃ W, W = wr.alloc (.cells #[.int .i64 k, str e, .int .i64 M, .int .i64 N] 47) := ⟨_, rfl⟩
        have HW1 := Lib.hid hw1
        rw [← hw1] at HP1 hB1 hO
        have HO := Lib.hid hO
        obtain ⟨go, hgo⟩ : ∃ x, x = wr.heap.size := ⟨_, rfl⟩
        have HGO := Lib.hid hgo
        clear hw1 al hO hgo
        have zz : (z : Int) ≤ 800 := by omega
        by_cases k1 : k = 1
        · subst k1
          obtain ⟨R, hk, lR⟩ := HP1.out.2.2.1
          have hBR := HP1.out.2.2.2.1
          have c1 := laid_c w.heap.size gR R e w1 hk lR hBR HP1.out.2.2.2.2.1 ue le_
          have o1 : w1.cell? ⟨go, 1, none⟩ = some (str e) := by rw [HGO.out, cell_of_row w1 wr.heap.size 1 _ _ (0, 0) HO.out]; rfl
          obtain ⟨y, hy⟩ : ∃ y, y = e.length := ⟨_, rfl⟩
          have HY := Lib.hid hy
          unfold LaidPost at c1
          rw [← hy] at c1
          have yl : y ≤ 1048576 := by omega
          have HO1 := Lib.hid (show w1.heap[go]? = some (.cells #[.int .i64 1, str e, .int .i64 M, .int .i64 N] 47 (0, 0)) by rw [HGO.out]; exact HO.out)
          clear hy hk lR
          go_wp2_with fail
          rw [← HW1.out, ← HGO.out]
          go_wp2_with fail
          refine c1.mono ?_; rintro e_ w2 ⟨gb, cap, rfl, la2, hBb, hR2, hb2, kb2⟩
          have hB2 := hB1.trans hb2
          have l2 := KeepB.log kb2 HP1.out.1
          have d2 := kb2.newV HP1.out.2.1 (by decide) (by decide)
          have o2 := kb2.whole HO1.out (by decide) (by decide)
          have bs2 : w.heap.size ≤ w2.heap.size := hB2.size
          have al := (Below.refl w2.heap.size w2).alloc (Nat.le_refl _) (.cells #[.slice (some ⟨gb, 0, none⟩) y cap] 25)
          have hB3 := hB2.trans (al.mono bs2)
          have l3 := l2.keep al
          have d3 := d2.keep al
          have o3 := (al.block go (Array.getElem?_eq_some_iff.1 o2).1).trans o2
          have la3 := la2.keep al
          have hR3 : ∃ R, Blk (w2.alloc (.cells #[.slice (some ⟨gb, 0, none⟩) y cap] 25)) gR .u8 5 R ∧ R.length = 200 := by
            obtain ⟨R', h1, h2⟩ := hR2
            exact ⟨R', h1.below al h1.lt, h2⟩
          have b3 : (w2.alloc (.cells #[.slice (some ⟨gb, 0, none⟩) y cap] 25)).heap[w2.heap.size]? = some (.cells #[.slice (some ⟨gb, 0, none⟩) y cap] 25 (0, 0)) := Go.heap_alloc_new w2 _
          obtain ⟨w3, hw3⟩ : ∃ W, W = w2.alloc (.cells #[.slice (some ⟨gb, 0, none⟩) y cap] 25) := ⟨_, rfl⟩
          have HW3 := Lib.hid hw3
          rw [← hw3] at hB3 l3 d3 o3 la3 hR3 b3
          have c2 := LogAppend_c w.heap.size g hs _ cap e w3 l3 la3.sl ue (by omega) hB3.size (ht.below hB3)
          unfold AppPost at c2
          rw [← HZ.out, ← HY.out] at c2
          simp only [show ¬ 65536 ≤ z by omega, if_false] at c2
          obtain ⟨gL, hgL⟩ : ∃ x, x = w2.heap.size := ⟨_, rfl⟩
          have HGL := Lib.hid hgL
          rw [← hgL] at b3
          have zne : ((z : Int) != (z : Int)) = false := by simp
          have zge : decide ((65536 : Int) ≤ (z : Int)) = false := decide_eq_false (by omega)
          have zge' : decide (65536 ≤ z) = false := decide_eq_false (by omega)
          have zge2 : ¬ 65536 ≤ z := by omega
          clear c1 hb2 kb2 l2 d2 o2 bs2 al la2 hR2 hw3 hgL o1
          go_wp2_with fail
          rw [← HW3.out, ← HGL.out]
          have cb3 : w3.cell? ⟨gL, 0, none⟩ = some (.slice (some ⟨gb, 0, none⟩) y cap) := by rw [cell_of_row w3 gL 0 _ _ (0, 0) b3]; rfl
          go_wp2_with fail
          refine c2.mono ?_; rintro e_ w4 ⟨rfl, l4, hb4, kl4⟩
          have hB4 := hB3.trans hb4
          have d4 := kl4.newV d3 (by decide) (by decide)
          have o4 := kl4.whole o3 (by decide) (by decide)
          have b4 := kl4.whole b3 (by decide) (by decide)
          have la4 := kl4.laid la3 (by decide) (by decide)
          have hR4 : ∃ R, Blk w4 gR .u8 5 R ∧ R.length = 200 := by
            obtain ⟨R', h1, h2⟩ := hR3
            exact ⟨R', kl4.blk h1 (by decide) (by decide), h2⟩
          have x1 : w4.cell? ⟨go, 1, none⟩ = some (str e) := by rw [cell_of_row w4 go 1 _ _ (0, 0) o4]; rfl
          clear c2 hb4 kl4 l3 d3 o3 b3 la3 hR3 hB3 cb3
          have al4 := (Below.refl w4.heap.size w4).alloc (Nat.le_refl _) (.cells #[str e] 9)
          have b5 := (al4.block gL (Array.getElem?_eq_some_iff.1 b4).1).trans b4
          have c3 := kept1_c gL 1 gb y cap _ 1 e _ (by rw [cell_of_row (w4.alloc (.cells #[str e] 9)) gL 0 _ _ (0, 0) b5]; rfl) (la4.keep al4) ue (ss_oneP w4 9 e ue) yl
          clear b5
          go_wp2_with fail
          refine c3.mono ?_; rintro e_ w5 ⟨rfl, nd, rfl⟩
          have hb5 : Below w4.heap.size w4 ((w4.alloc (.cells #[str e] 9)).drewN nd) := below_drewN al4 nd
          have hB5 := hB4.trans (hb5.mono hB4.size)
          have l5 := l4.keep hb5
          have d5 := d4.keep hb5
          have o5 := (hb5.block go (Array.getElem?_eq_some_iff.1 o4).1).trans o4
          have b5 := (hb5.block gL (Array.getElem?_eq_some_iff.1 b4).1).trans b4
          have la5 := la4.keep hb5
          have hR5 : ∃ R, Blk ((w4.alloc (.cells #[str e] 9)).drewN nd) gR .u8 5 R ∧ R.length = 200 := by
            obtain ⟨R', h1, h2⟩ := hR4
            exact ⟨R', h1.below hb5 h1.lt, h2⟩
          obtain ⟨w6, hw6⟩ : ∃ W, W = (w4.alloc (.cells #[str e] 9)).drewN nd := ⟨_, rfl⟩
          rw [← hw6] at hB5 l5 d5 o5 b5 la5 hR5 ⊢
          obtain ⟨Y0, hk0, -, y1, y2, y3, -⟩ := la5
          have lY0 : Hid (y ≤ Y0.length) := Lib.hid (by omega)
          have L5 := Lib.hid (And.intro l5 (And.intro d5 (And.intro o5 b5)))
          have ycap : y ≤ cap := by omega
          clear c3 hb5 al4 hB4 l4 d4 o4 b4 la4 hR4 hw6 x1 l5 d5 o5 b5 y1 y2 y3
          go_wp2_with fail
          go_loopw [11] (fun t wr => ∃ (q : Nat) (Y R : List Int), q ≤ y ∧ t = .int .i64 (q : Int) ∧ Blk wr gb .u8 5 Y ∧ Hid (y ≤ Y.length) ∧ Blk wr gR .u8 5 R ∧ Hid (R.length = 200) ∧ KeepB w6 wr ∧ Below w.heap.size w wr) (fun t _ => y - (intOf t).toNat)
          case atStart =>
            obtain ⟨R', h1, h2⟩ := hR5
            exact ⟨0, Y0, R', by omega, rfl, hk0, lY0, h1, Lib.hid h2, .refl _ _ _, hB5⟩
          case round =>
            clear hk0 lY0 hR5 hB5
            obtain ⟨q, Y, R', hq, rfl, hkb, lY, hkR, lR, kb, hBw⟩ := hrel
            have b7 := kb.whole L5.out.2.2.2 (by decide) (by decide)
            have cb7 : wr.cell? ⟨gL, 0, none⟩ = some (.slice (some ⟨gb, 0, none⟩) y cap) := by rw [cell_of_row wr gL 0 _ _ (0, 0) b7]; rfl
            clear b7
            by_cases hqy : q < y
            · have hdq : decide ((q : Int) < (y : Int)) = true := decide_eq_true (by omega)
              have hqi : (q : Int) < (y : Int) := by omega
              have cq := hkb.cell q (by have := lY.out; omega)
              have fq := hkb.free q
              have hk2 := hkb.set q 0
              have hR2 : ∃ R2, Blk (wr.setCell ⟨gb, q, none⟩ (.int .u8 0)) gR .u8 5 R2 ∧ R2.length = 200 := by
                by_cases e : gR = gb
                · subst e
                  exact ⟨_, hkR.set q 0, by rw [List.length_set]; exact lR.out⟩
                · exact ⟨_, hkR.other e q _, lR.out⟩
              obtain ⟨R2, hkR2, lR2⟩ := hR2
              have LR2 := Lib.hid lR2
              have kb2 : KeepB w6 (wr.setCell ⟨gb, q, none⟩ (.int .u8 0)) := kb.trans (KeepT.grown (grownBy_set wr ⟨gb, q, none⟩ (.int .u8 0)) (fun p hp _ => by cases hp; exact ⟨_, _, _, hkb, .inl rfl⟩))
              have hBw2 := hBw.setCell (p := ⟨gb, q, none⟩) hBb (.int .u8 0)
              have lY2 : Hid (y ≤ (Y.set q 0).length) := Lib.hid (by rw [List.length_set]; exact lY.out)
              clear hkb hkR lR kb hBw lR2
              go_wp2_with fail
              go_roundw
              case rel => exact ⟨q + 1, _, R2, by omega, by go_num, hk2, lY2, hkR2, LR2, kb2, hBw2⟩
              case measure => simp [intOf]; omega
            · obtain rfl : q = y := by omega
              have hdq : decide ((q : Int) < (q : Int)) = false := by simp
              have l8 := KeepB.log kb L5.out.1
              have d8 := kb.newV L5.out.2.1 (by decide) (by decide)
              have o8 := kb.whole L5.out.2.2.1 (by decide) (by decide)
              have x1 : wr.cell? ⟨go, 1, none⟩ = some (str e) := by rw [cell_of_row wr go 1 _ _ (0, 0) o8]; rfl
              have hP8 : PlayAt w.heap.size g gR (hs ++ [leafD e]) (.slice none 0 0) wr → True := fun _ => trivial
              have c4 := rLeaf_c e wr ue (by omega) (hr.below hBw)
              unfold StrPost at c4
              obtain ⟨d, hd_⟩ : ∃ d, d = leafD e := ⟨_, rfl⟩
              have dd : Dig d := by rw [hd_]; exact shaD_dig _
              rw [← hd_] at c4 l8
              have bs8 : w.heap.size ≤ wr.heap.size := hBw.size
              have HD_ := Lib.hid (And.intro l8 hkR)
              clear hP8 hd_ hkb kb o8 l8 hkR
              go_wp2_with fail
              refine c4.mono ?_; rintro e_ w9 ⟨rfl, hb9⟩
              have hB9 := hBw.trans (hb9.mono bs8)
              have d9 := d8.keep hb9
              have al9 := (Below.refl w9.heap.size w9).alloc (Nat.le_refl _) (.cells #[str d] 9)
              have d10 := d9.keep al9
              have hB10 := hB9.trans (al9.mono hB9.size)
              have lv := fun x hx => (d10.lt x hx).1
              have l10 := (HD_.out.1.keep hb9).keep al9
              have kR10 := (HD_.out.2.below hb9 HD_.out.2.lt)
              have kR11 := kR10.below al9 kR10.lt
              have LL := Lib.hid (And.intro l10 kR11)
              have LH : Hid ((hs.map str).length = z) := Lib.hid (by rw [List.length_map, ← HZ.out])
              obtain ⟨Z, hZ⟩ : ∃ l, l = hs.map str := ⟨_, rfl⟩
              have HZZ := Lib.hid hZ
              rw [← hZ] at d10 LH
              clear c4 hb9 d8 d9 al9 hB9 l10 kR10 kR11 hBw bs8 hZ
              go_wp2_with (at_builtin; refine wpList_append_newX _ rfl _ _ 22 rfl w.heap.size 9 16 (str []) rfl Tryd.underlying22 infoS _ _ rfl d10 _ 1 (str d) rfl rfl (cell_new1 _ _ _ _) (by rw [LH.out]; omega) (by rw [LH.out]; omega) hB10.size ?_)
              intro v11 w11 d11 hg11 ho11
              have hB11 := hB10.grown hg11 hB10.size lv
              have ks : KeepT 9 9 (w9.alloc (.cells #[str d] 9)) w11 := KeepT.grown hg11 (fun p hp _ => by
                obtain ⟨cs, hc⟩ := NewV.heapT' d10 hp
                exact ⟨cs, _, _, hc, .inl rfl⟩)
              have P11 : PlayAt w.heap.size g gR (hs ++ [d]) v11 w11 := ⟨LL.out.1.by_blocks (fun c cs T z hc hT => ks.2 c cs T z hc (by rcases hT with e | e <;> rw [e] <;> decide) (by rcases hT with e | e <;> rw [e] <;> decide)), by rw [List.map_append, ← HZZ.out]; exact d11, ⟨_, ks.blk LL.out.2 (by decide) (by decide), lR.out⟩, hBR, hB11.size, fun x hx => by
                rcases List.mem_append.1 hx with h | h
                · exact HP1.out.2.2.2.2.2 x h
                · simp only [List.mem_singleton] at h; rw [h]; exact dd⟩
              have PP := Lib.hid P11
              clear d10 hg11 ho11 hB10 lv ks P11 LL d11
              go_wp2_with fail
              go_roundw
              case rel => exact ⟨i + 1, hs ++ [d], by omega, by go_num, PP, by rw [List.length_append, ← HZ.out]; simp only [List.length_singleton]; omega, by omega, hB11⟩
              case measure => simp [intOf]; omega
        · have k1' : (k == 1) = false := by simpa using k1
          by_cases k2 : k = 2
          · subst k2
            have sz := LogSize_c w.heap.size g hs w1 HP1.out.1
            rw [← HZ.out] at sz
            have zne : ((z : Int) != (z : Int)) = false := by simp
            go_wp2_with fail
            rw [← HW1.out, ← HGO.out]
            refine sz.mono ?_; rintro e_ w2 ⟨rfl, hw⟩
            have hw2 := hw.symm; subst hw2; clear hw
            go_wp2_with fail
            go_roundw
            case rel => exact ⟨i + 1, hs, by omega, by go_num, HP1, by rw [← HZ.out]; omega, by omega, hB1⟩
            case measure => simp [intOf]; omega
          · have k2' : (k == 2) = false := by simpa using k2
            by_cases k3 : k = 3
            · subst k3
              have o3 : w1.cell? ⟨go, 3, none⟩ = some (.int .i64 N) := by rw [HGO.out, cell_of_row w1 wr.heap.size 3 _ _ (0, 0) HO.out]; rfl
              have gl : go < w1.heap.size := World.block_lt_of_cell? _ _ o3
              have rt := fun (W : World) (hb : Below w1.heap.size w1 W) => LogRoot_c w.heap.size g hs N W (HP1.out.1.keep hb) (by rw [← HZ.out]; omega) (ht.below (hB1.trans (hb.mono hB1.size)))
              rw [← HZ.out] at rt
              obtain ⟨R, hR⟩ : ∃ r, r = (if 0 ≤ N ∧ N ≤ (z : Int) then some (rootB (hs.take N.toNat)) else none) := ⟨_, rfl⟩
              rw [← hR] at rt
              unfold RootPost at rt
              have HR := Lib.hid hR
              obtain ⟨c, hc⟩ : ∃ c : Int, c = if R = none then 250 else 0 := ⟨_, rfl⟩
              rw [← hc] at rt
              have HC := Lib.hid hc
              have c1 := rt w1 (.refl _ _)
              clear hR hc
              go_wp2_with fail
              rw [← HW1.out, ← HGO.out]
              refine c1.mono ?_; rintro e_ w2 ⟨v2, rfl, n2, hn2, hb2⟩
              have c2 := rt w2 hb2
              have o32 : w2.cell? ⟨go, 3, none⟩ = some (.int .i64 N) := by rw [World.cell?_of_block (w := w1) (hb2.block go gl)]; exact o3
              have HN2 := Lib.hid hn2
              clear c1 rt hn2 o3
              go_wp2_with fail
              refine c2.mono ?_; rintro e_ w3 ⟨v3, rfl, n3, hn3, hb3⟩
              have hb13 := hb2.trans (hb3.mono hb2.size)
              have o33 : w3.cell? ⟨go, 3, none⟩ = some (.int .i64 N) := by rw [World.cell?_of_block (w := w1) (hb13.block go gl)]; have := o32; rw [World.cell?_of_block (w := w1) (hb2.block go gl)] at this; exact this
              have HN3 := Lib.hid hn3
              clear c2 hn3 o32
              by_cases hN : 0 ≤ N ∧ N ≤ (z : Int)
              · have f0 : decide (N < 0) = false := decide_eq_false (by omega)
                have f0' : ¬ N < 0 := by omega
                obtain ⟨K, rfl⟩ : ∃ K : Nat, N = (K : Int) := ⟨N.toNat, by omega⟩
                have f1 : decide ((z : Int) < (K : Int)) = false := decide_eq_false (by omega)
                have f1' : decide (z < K) = false := decide_eq_false (by omega)
                have f1'' : ¬ z < K := by omega
                have eR : R = some (rootB (hs.take K)) := by rw [HR.out, if_pos hN, Int.toNat_natCast]
                obtain rfl : c = 0 := by rw [HC.out, eR]; rfl
                rw [eR, Option.getD_some] at n2 n3
                obtain ⟨r, hr_⟩ : ∃ r, r = rootB (hs.take K) := ⟨_, rfl⟩
                have dr : Dig r := by rw [hr_]; exact root_dig _ _ _ (fun d hd => HP1.out.2.2.2.2.2 d (List.mem_of_mem_take hd))
                rw [← hr_] at n2 n3
                have HR_ := Lib.hid hr_
                have N2L := Lib.hid n2.lt
                have N3L := Lib.hid n3.lt
                have n23 := n2.keep hb3
                have n33 := n3.mono hb2.size
                obtain ⟨av, cv, rfl, -⟩ := n23.at_own
                obtain ⟨aq, cq, rfl, -⟩ := n33.at_own
                rw [dr.1] at n23 n33 N2L N3L ⊢
                have S3 : w1.heap.size ≤ w3.heap.size := hb13.size
                have al1 := (Below.refl w3.heap.size w3).alloc (Nat.le_refl _) (.cells #[.slice av 32 cv] 25)
                have as1 : (w3.alloc (.cells #[.slice av 32 cv] 25)).heap.size = w3.heap.size + 1 := by simp
                have al2 := (Below.refl (w3.alloc (.cells #[.slice av 32 cv] 25)).heap.size (w3.alloc (.cells #[.slice av 32 cv] 25))).alloc (Nat.le_refl _) (.cells #[.slice aq 32 cq] 25)
                have l1 := (Lists.oneP (T := 25) n23 S3).keep al2
                have l2 := Lists.oneP (T := 25) (n33.alloc (.cells #[.slice av 32 cv] 25)) (Nat.le_trans S3 al1.size)
                have al3 := al1.trans (al2.mono al1.size)
                have hb14 := hb13.trans (al3.mono S3)
                have as2 : ((w3.alloc (.cells #[.slice av 32 cv] 25)).alloc (.cells #[.slice aq 32 cq] 25)).heap.size = w3.heap.size + 2 := by simp
                have P14 := Lib.hid (HP1.out.keep hb14)
                have lt : (hs.take K).length = K := by rw [List.length_take, ← HZ.out]; omega
                obtain ⟨a9, c9, e9, sD⟩ := P14.out.2.1.ss (fun s h => (P14.out.2.2.2.2.2 s h).2)
                simp only [Value.slice.injEq] at e9
                obtain ⟨rfl, -, rfl⟩ := e9
                have hB14 := hB1.trans (hb14.mono hB1.size)
                have c3 := rRoot_c aD cD (hs.take K) _ (sD.take K) (fun d hd => HP1.out.2.2.2.2.2 d (List.mem_of_mem_take hd)) (by rw [lt]; omega) (hr.below hB14)
                rw [lt, ← HR_.out] at c3
                unfold StrPost at c3
                have zc : z ≤ cD := by have := sD.le; rw [← HZ.out] at this; exact this
                have lcut := fun W => cutS_to W aD z cD K (by omega)
                rw [as2] at c3
                rw [as1] at l2
                have cc0 : ((0 : Int) != 0) = false := by decide
                have o34 : ((w3.alloc (.cells #[.slice av 32 cv] 25)).alloc (.cells #[.slice aq 32 cq] 25)).cell? ⟨go, 3, none⟩ = some (.int .i64 (K : Int)) := by rw [World.cell?_of_block (w := w3) (al3.block go (Nat.lt_of_lt_of_le gl S3))]; exact o33
                clear al1 al2 n2 n3 n23 n33 as1 lt sD zc eR hr_
                go_wp2_with fail
                refine c3.mono ?_; rintro e_ w5 ⟨rfl, hb5⟩
                have al5 := (Below.refl w5.heap.size w5).alloc (Nat.le_refl _) (.cells #[str r] 9)
                rw [← as2] at hb5
                have hb6 := hb5.trans (al5.mono hb5.size)
                have l16 := l1.keep hb6
                have l26 := l2.keep hb6
                have hb16 := hb14.trans (hb6.mono hb14.size)
                have s6 := ss_oneP w5 9 r dr.2
                have c6 := apart_c w1.heap.size 1 _ _ 1 1 _ _ _ _ [r] _ _ _ (by omega) rfl (fun d hd => (by simp only [List.mem_singleton] at hd; rw [hd]; exact dr)) l16 l26 (fun j hj => by obtain rfl : j = 0 := (by omega); rfl) (fun j hj => by obtain rfl : j = 0 := (by omega); rfl) (fun i j _ _ g h1 h2 => by
                  have := (N2L.out g h1).2
                  have := (N3L.out g h2).1
                  omega) (fun g h1 h2 => by
                  have e1 : w3.heap.size = g := Option.some.inj h1
                  have e2 : w3.heap.size + 1 = g := Option.some.inj h2
                  omega) hb16.size s6
                clear c3 l1 l2 hb5 l16 l26 s6 al5 hb6 as2 lcut
                go_wp2_with fail
                refine c6.mono ?_; rintro e_ w7 ⟨rfl, hb7⟩
                have hb17 := hb16.trans hb7
                have HP7 := Lib.hid (HP1.out.keep hb17)
                have hB7 := hB1.trans (hb17.mono hB1.size)
                clear c6
                go_wp2_with fail
                go_roundw
                case rel => exact ⟨i + 1, hs, by omega, by go_num, HP7, by rw [← HZ.out]; omega, by omega, hB7⟩
                case measure => simp [intOf]; omega
              · have eR : R = none := by rw [HR.out, if_neg hN]
                obtain rfl : c = 250 := by rw [HC.out, eR]; rfl
                have e2 := HN2.out eR
                have e3 := HN3.out eR
                subst e2 e3
                have HP3 := Lib.hid (HP1.out.keep hb13)
                have hB3 := hB1.trans (hb13.mono hB1.size)
                have c25 : ((250 : Int) != 250) = false := by decide
                clear eR n2 n3 HN2 HN3
                by_cases hN0 : 0 ≤ N
                · have f0 : decide (N < 0) = false := decide_eq_false (by omega)
                  have f0' : ¬ N < 0 := by omega
                  have f1 : decide ((z : Int) < N) = true := decide_eq_true (by omega)
                  have f1' : (z : Int) < N := by omega
                  go_wp2_with fail
                  go_roundw
                  case rel => exact ⟨i + 1, hs, by omega, by go_num, HP3, by rw [← HZ.out]; omega, by omega, hB3⟩
                  case measure => simp [intOf]; omega
                · have f0 : decide (N < 0) = true := decide_eq_true (by omega)
                  have f0' : N < 0 := by omega
                  go_wp2_with fail
                  go_roundw
                  case rel => exact ⟨i + 1, hs, by omega, by go_num, HP3, by rw [← HZ.out]; omega, by omega, hB3⟩
                  case measure => simp [intOf]; omega
            · have k3' : (k == 3) = false := by simpa using k3
              by_cases k4 : k = 4
              · subst k4
                obtain ⟨a9, c9, e9, sD⟩ := HP1.out.2.1.ss (fun s h => (HP1.out.2.2.2.2.2 s h).2)
                simp only [Value.slice.injEq] at e9
                obtain ⟨rfl, -, rfl⟩ := e9
                have c1 := shown_c w.heap.size g hs aD cD 4 e M N true (by simp) w1 HP1.out.1 sD HP1.out.2.2.2.2.2 (by rw [← HZ.out]; omega) (ht.below hB1) (hr.below hB1)
                unfold TellPost opV at c1
                rw [← HZ.out] at c1
                have o0 : w1.cell? ⟨go, 0, none⟩ = some (.int .i64 4) := by rw [HGO.out, cell_of_row w1 wr.heap.size 0 _ _ (0, 0) HO.out]; rfl
                have o1 : w1.cell? ⟨go, 1, none⟩ = some (str e) := by rw [HGO.out, cell_of_row w1 wr.heap.size 1 _ _ (0, 0) HO.out]; rfl
                have o2 : w1.cell? ⟨go, 2, none⟩ = some (.int .i64 M) := by rw [HGO.out, cell_of_row w1 wr.heap.size 2 _ _ (0, 0) HO.out]; rfl
                have o3 : w1.cell? ⟨go, 3, none⟩ = some (.int .i64 N) := by rw [HGO.out, cell_of_row w1 wr.heap.size 3 _ _ (0, 0) HO.out]; rfl
                clear sD
                go_wp2_with fail
                rw [← HW1.out, ← HGO.out]
                refine c1.mono ?_; rintro e_ w2 ⟨rfl, hb2⟩
                have HP2 := Lib.hid (HP1.out.keep hb2)
                have hB2 := hB1.trans (hb2.mono hB1.size)
                clear c1
                go_wp2_with fail
                go_roundw
                case rel => exact ⟨i + 1, hs, by omega, by go_num, HP2, by rw [← HZ.out]; omega, by omega, hB2⟩
                case measure => simp [intOf]; omega
              · have k4' : (k == 4) = false := by simpa using k4
                by_cases k5 : k = 5
                · subst k5
                  obtain ⟨a9, c9, e9, sD⟩ := HP1.out.2.1.ss (fun s h => (HP1.out.2.2.2.2.2 s h).2)
                  simp only [Value.slice.injEq] at e9
                  obtain ⟨rfl, -, rfl⟩ := e9
                  have c1 := shown_c w.heap.size g hs aD cD 5 e M N false (by simp) w1 HP1.out.1 sD HP1.out.2.2.2.2.2 (by rw [← HZ.out]; omega) (ht.below hB1) (hr.below hB1)
                  unfold TellPost opV at c1
                  rw [← HZ.out] at c1
                  have o0 : w1.cell? ⟨go, 0, none⟩ = some (.int .i64 5) := by rw [HGO.out, cell_of_row w1 wr.heap.size 0 _ _ (0, 0) HO.out]; rfl
                  have o1 : w1.cell? ⟨go, 1, none⟩ = some (str e) := by rw [HGO.out, cell_of_row w1 wr.heap.size 1 _ _ (0, 0) HO.out]; rfl
                  have o2 : w1.cell? ⟨go, 2, none⟩ = some (.int .i64 M) := by rw [HGO.out, cell_of_row w1 wr.heap.size 2 _ _ (0, 0) HO.out]; rfl
                  have o3 : w1.cell? ⟨go, 3, none⟩ = some (.int .i64 N) := by rw [HGO.out, cell_of_row w1 wr.heap.size 3 _ _ (0, 0) HO.out]; rfl
                  clear sD
                  go_wp2_with fail
                  rw [← HW1.out, ← HGO.out]
                  refine c1.mono ?_; rintro e_ w2 ⟨rfl, hb2⟩
                  have HP2 := Lib.hid (HP1.out.keep hb2)
                  have hB2 := hB1.trans (hb2.mono hB1.size)
                  clear c1
                  go_wp2_with fail
                  go_roundw
                  case rel => exact ⟨i + 1, hs, by omega, by go_num, HP2, by rw [← HZ.out]; omega, by omega, hB2⟩
                  case measure => simp [intOf]; omega
                · have k5' : (k == 5) = false := by simpa using k5
                  clear k1 k2 k3 k4 k5
                  go_wp2_with fail
                  rw [← HW1.out]
                  go_roundw
                  case rel => exact ⟨i + 1, hs, by omega, by go_num, HP1, by rw [← HZ.out]; omega, by omega, hB1⟩
                  case measure => simp [intOf]; omega
      · have hd8 : decide ((i : Int) < 800) = false := decide_eq_false (by omega)
        have hi8' : ¬ (i : Int) < 800 := by omega
        have sz := LogSize_c w.heap.size g hs wr HP.out.1
        rw [← HZ.out] at sz
        have zne : ((z : Int) == (z : Int)) = true := by simp
        go_wp2_with fail
        refine sz.mono ?_; rintro e_ w2 ⟨rfl, hw⟩
        have hw2 := hw.symm; subst hw2; clear hw
        go_wp2_with fail
        go_ret
        exact ⟨rfl, hB⟩
    · have hd : decide ((i : Int) < (n : Int)) = false := decide_eq_false (by omega)
      have hii : ¬ (i : Int) < (n : Int) := by omega
      have sz := LogSize_c w.heap.size g hs wr HP.out.1
      rw [← HZ.out] at sz
      have zne : ((z : Int) == (z : Int)) = true := by simp
      go_wp2_with fail
      refine sz.mono ?_; rintro e_ w2 ⟨rfl, hw⟩
      have hw2 := hw.symm; subst hw2; clear hw
      go_wp2_with fail
      go_ret
      exact ⟨rfl, hB⟩
end Go.Proofs.YtmbifokiebjmmaaDoor
