import Derived.Test.YtmbifokiebjmmaaDoorZ21
import Derived.Test.YtmbifokiebjmmaaDoorZ2
import Derived.Test.YtmbifokiebjmmaaDoorZ12
import Derived.Test.YtmbifokiebjmmaaDoorZ16
/- signetlaw36.apart by its contract. (Printed by gen_logf.py.) -/
set_option linter.unusedVariables false
set_option linter.unusedSimpArgs false
namespace Go.Sg
open Go.RowKit
def AllLen (m : Nat) (vs : List Value) : Prop := ∀ u ∈ vs, ∃ x c, u = .slice x m c
theorem AllLen.snoc {m : Nat} {vs : List Value} {x : Option Addr} {c : Nat} (h : AllLen m vs) : AllLen m (vs ++ [.slice x m c]) := fun u hu => by
  rcases List.mem_append.1 hu with h1 | h1
  · exact h u h1
  · simp at h1; exact ⟨x, c, h1⟩
end Go.Sg
namespace Go.Proofs.YtmbifokiebjmmaaDoor
open Go.RowKit Go.Sg
theorem cell_new1' (w : World) (E : TypeId) (u : Value) (z : Nat × Nat) (b : Nat) (hb : b = w.heap.size) : (w.alloc (.cells #[u] E z)).cell? ⟨b, 0, none⟩ = some u := by subst hb; exact cell_new1 w E u z
theorem LenRow.of {B : Nat} {E : TypeId} {w : World} {a : Option Addr} {n c m k : Nat} {vs : List Value} (h : NewV B E w (.slice a k c) vs) (hl : AllLen m vs) (hn : n ≤ vs.length) : LenRow w a n m := by
  intro hp
  obtain ⟨g, ha, _, _⟩ := h.cell 0 (by omega)
  refine ⟨g, 0, ha, fun j hj => ?_⟩
  obtain ⟨g', ha', _, hc⟩ := h.cell j (by omega)
  rw [ha] at ha'
  cases ha'
  obtain ⟨x, q, e⟩ := hl _ (List.getElem_mem (by omega : j < vs.length))
  exact ⟨x, q, by rw [Nat.zero_add, hc, e]⟩
theorem LenRow.keep {w w' : World} {a : Option Addr} {n m : Nat} (h : LenRow w a n m) (hb : Below w.heap.size w w') : LenRow w' a n m := by
  intro hp
  obtain ⟨b, off, ha, hc⟩ := h hp
  refine ⟨b, off, ha, fun j hj => ?_⟩
  obtain ⟨x, q, e⟩ := hc j hj
  exact ⟨x, q, by rw [World.cell?_of_block (w := w) (hb.block b (World.block_lt_of_cell? w _ e))]; exact e⟩
theorem LenRow.drewN {w : World} {a : Option Addr} {n m : Nat} (h : LenRow w a n m) (k : Nat) : LenRow (w.drewN k) a n m := h
theorem LenRow.grown {w w' : World} {a : Option Addr} {n m : Nat} {row : Option Nat} (h : LenRow w a n m) (hg : w.grownBy w' row) (hne : ∀ g o, a = some ⟨g, o, none⟩ → some g ≠ row) : LenRow w' a n m := by
  intro hp
  obtain ⟨b, off, ha, hc⟩ := h hp
  refine ⟨b, off, ha, fun j hj => ?_⟩
  obtain ⟨x, q, e⟩ := hc j hj
  exact ⟨x, q, by rw [World.cell?_of_block (w := w) (hg.block b (World.block_lt_of_cell? w _ e) (hne b off ha))]; exact e⟩
/-- A row of slices, while a slice that begins at its head grows. -/
theorem LenRow.append {B : Nat} {E : TypeId} {w w' : World} {a : Option Addr} {n m na ca : Nat} {x : Value} {vx : List Value} (h : LenRow w a n m) (hg : w.grownBy w' x.ownBlock) (hx : NewV B E w' x vx) (hl : AllLen m vx) (hn : n ≤ vx.length) (hz : ∀ g o, a = some ⟨g, o, none⟩ → o = 0) : LenRow w' a n m := by
  by_cases hp : 0 < n
  · obtain ⟨b, off, ha, hc⟩ := h hp
    by_cases e : x.ownBlock = some b
    · obtain ⟨ax, cx, hv⟩ := hx.sl
      subst hv
      obtain ⟨g, hax, _, _⟩ := hx.cell 0 (by omega)
      subst hax
      have eg : g = b := by simpa [Value.ownBlock] using e
      subst eg
      have := LenRow.of (n := n) hx hl hn
      have e0 := hz g off ha
      subst e0
      rw [ha]
      exact this
    · exact h.grown hg fun g o hga e2 => by
        rw [ha] at hga
        cases hga
        exact e e2.symm
  · exact fun hp' => absurd hp' hp

set_option maxHeartbeats 16000000 in
set_option maxRecDepth 20000 in
theorem apart_c (B n : Nat) (a b : Option Addr) (ca cb : Nat) (VA VB : Nat → Value) (AA AB : Nat → List Int) (ds : List (List Int)) (W : Option Addr) (cW : Nat) (w : World) (hn : n ≤ 4194304) (hd0 : ds.length = n) (dd : ∀ d ∈ ds, Dig d)
    (hLa : Lists B .u8 5 25 w (.slice a n ca) n VA AA) (hLb : Lists B .u8 5 25 w (.slice b n cb) n VB AB) (eA : ∀ j, j < n → AA j = ds.getD j []) (eB : ∀ j, j < n → AB j = ds.getD j [])
    (hAB : ∀ i j, i < n → j < n → ∀ g, (VA i).ownBlock = some g → (VB j).ownBlock ≠ some g) (hab : ∀ g, (Value.slice a n ca).ownBlock = some g → (Value.slice b n cb).ownBlock ≠ some g) (hB : B ≤ w.heap.size) (sw : Ss w W cW ds) :
    Calls Tryd.prog 16 #[.slice a n ca, .slice b n cb, .slice W n cW] w (fun e w' => e = .returned (.bool true) ∧ Below B w w') := by
  have dl : ∀ j, j < n → Dig (ds.getD j []) := fun j hj => dd _ (getD_mem (by omega))
  obtain ⟨psa, la, ra, xa⟩ := Lists.rows hLa (fun j hj => by rw [eA j hj]; exact (dl j hj).2)
  obtain ⟨psb, lb, rb, xb⟩ := Lists.rows hLb (fun j hj => by rw [eB j hj]; exact (dl j hj).2)
  rw [range_getD hd0 eA] at xa
  rw [range_getD hd0 eB] at xb
  have z32 : ∀ (ps : List Part), ps.map (·.xs) = ds → ∀ p ∈ ps, p.xs.length ≤ 4294967296 := fun ps e p hp => by
    have : p.xs ∈ ds := by rw [← e]; exact List.mem_map.2 ⟨p, hp, rfl⟩
    rw [(dd _ this).1]; omega
  have u8d : ∀ s ∈ ds, U8 s := fun s hs => (dd s hs).2
  have c1 := textsR_c a ca psa w ra (z32 psa xa) (by omega)
  have c2 := fun V (hb : Below w.heap.size w V) => textsR_c b cb psb V (rb.below hb) (z32 psb xb) (by omega)
  unfold TextsOut at c1 c2
  rw [xa, la] at c1
  rw [xb, lb] at c2
  have cs := fun (A : Option Addr) (c : Nat) (V : World) (s : Ss V A c ds) (hb : Below w.heap.size w V) => same36_c A W c cW ds ds V s (sw.below hb)
  rw [hd0] at cs
  rw [decide_eq_true (show ds = ds from rfl)] at cs
  have zA : ∀ j, j < n → (AA j).length ≤ 32 := fun j hj => by rw [eA j hj, (dl j hj).1]; omega
  have zB : ∀ j, j < n → (AB j).length ≤ 32 := fun j hj => by rw [eB j hj, (dl j hj).1]; omega
  have HD := Lib.hid hd0
  have HAB := Lib.hid hAB
  have HZ := Lib.hid (And.intro zA zB)
  have hnI : (n : Int) ≤ 4194304 := by omega
  have oa : Hid (∀ g o, a = some ⟨g, o, none⟩ → o = 0) := Lib.hid fun g o e => by
    by_cases hp : 0 < n
    · obtain ⟨g', ha', _⟩ := hLa.row.place hp
      rw [e] at ha'
      cases ha'
      rfl
    · obtain rfl : n = 0 := by omega
      rcases hLa.row with ⟨h, _⟩ | ⟨g', cap, cs', h, _⟩
      · simp only [Value.slice.injEq] at h; rw [h.1] at e; cases e
      · simp only [Value.slice.injEq] at h; rw [h.1] at e; cases e; rfl
  have ob : Hid (∀ g o, b = some ⟨g, o, none⟩ → o = 0) := Lib.hid fun g o e => by
    by_cases hp : 0 < n
    · obtain ⟨g', ha', _⟩ := hLb.row.place hp
      rw [e] at ha'
      cases ha'
      rfl
    · obtain rfl : n = 0 := by omega
      rcases hLb.row with ⟨h, _⟩ | ⟨g', cap, cs', h, _⟩
      · simp only [Value.slice.injEq] at h; rw [h.1] at e; cases e
      · simp only [Value.slice.injEq] at h; rw [h.1] at e; cases e; rfl
  clear dl ra rb la lb xa xb z32 zA zB hd0 hAB sw dd
  go_enter Tryd.func16, Tryd.ntmps16
  go_wp2_with fail
  refine c1.mono ?_; rintro e_ w1 ⟨v1, rfl, hv1, hb1⟩
  obtain ⟨a1, k1, rfl, s1⟩ := hv1.ss u8d
  have q1 := cs a1 k1 w1 s1 hb1
  rw [HD.out]
  clear c1 hv1 s1
  go_wp2_with fail
  refine q1.mono ?_; rintro e_ w2 ⟨rfl, nd, rfl⟩
  have hb2 : Below w.heap.size w (w1.drewN nd) := below_drewN hb1 nd
  have c3 := c2 _ hb2
  clear q1 c2
  go_wp2_with fail
  refine c3.mono ?_; rintro e_ w3 ⟨v3, rfl, hv3, hb3⟩
  obtain ⟨a3, k3, rfl, s3⟩ := hv3.ss u8d
  have hb4 := hb2.trans (hb3.mono hb2.size)
  have q3 := cs a3 k3 w3 s3 hb4
  rw [HD.out]
  clear c3 hv3 s3 hb3 hb2 hb1 cs u8d
  go_wp2_with fail
  refine q3.mono ?_; rintro e_ w4 ⟨rfl, nd2, rfl⟩
  have hb5 : Below w.heap.size w (w3.drewN nd2) := below_drewN hb4 nd2
  obtain ⟨w5, hw5⟩ : ∃ W, W = w3.drewN nd2 := ⟨_, rfl⟩
  rw [← hw5] at hb5 ⊢
  clear q3 hb4 hw5
  go_wp2_with fail
  go_loopw [7, 8] (fun v t wr => ∃ k : Nat, k ≤ n ∧ t = .int .i64 (k : Int) ∧ NewV w.heap.size 25 wr v ((List.range k).map VA) ∧ Below w.heap.size w wr) (fun _ t _ => n - (intOf t).toNat)
  case atStart => exact ⟨0, by omega, rfl, .nil _ _ _, hb5⟩
  case round =>
    clear hb5
    obtain ⟨k, hk, rfl, hv, hb⟩ := hrel
    by_cases hlt : k < n
    · have hd : decide ((k : Int) < (n : Int)) = true := decide_eq_true (by omega)
      have hi : (k : Int) < (n : Int) := by omega
      obtain ⟨g, rfl, cell⟩ := (hLa.row.keep hb).place hlt
      obtain ⟨xa, xc, hV, _, _⟩ := hLa.fam.own hlt
      obtain ⟨z, hz⟩ : ∃ z, z = (AA k).length := ⟨_, rfl⟩
      rw [← hz] at hV
      rw [hV] at cell
      have e1 : Hid ((List.range (k + 1)).map VA = (List.range k).map VA ++ [.slice xa z xc]) := Lib.hid (range_push (fun _ _ => rfl) hV)
      have LK : Hid (((List.range k).map VA).length = k) := Lib.hid (by simp)
      clear hV hz
      have al := (Below.refl wr.heap.size wr).alloc (Nat.le_refl _) (.cells #[.slice xa z xc] 25)
      have hv_ := hv.keep al
      have hB_ := hb.trans (al.mono hb.size)
      have lv_ := fun g hg => (hv_.lt g hg).1
      clear hv hb al
      go_wp2_with (at_builtin; refine wpList_append_newV _ rfl _ _ 23 rfl w.heap.size 25 24 Tryd.underlying23 infoL _ ((List.range k).map VA) rfl hv_ _ 1 (.slice xa z xc) ⟨_, _, _, rfl⟩ rfl (cell_new1 _ _ _ _) (by rw [LK.out]; omega) (by rw [LK.out]; omega) hB_.size ?_)
      intro v_ w6 hv6 hg_ ho_
      have hB6 := hB_.grown hg_ hB_.size lv_
      clear hv_ hg_ ho_ hB_ lv_
      go_wp2_with fail
      go_roundw
      case rel => exact ⟨k + 1, by omega, by go_num, by rw [e1.out]; exact hv6, hB6⟩
      case measure => simp [intOf]; omega
    · obtain rfl : k = n := by omega
      have hd : decide ((k : Int) < (k : Int)) = false := by simp
      clear hlt
      obtain ⟨VC, hVC⟩ : ∃ f : Nat → Value, f = fun j => if j < k then VA j else VB (j - k) := ⟨_, rfl⟩
      have hv0 := hv
      rw [show (List.range k).map VA = (List.range (k + 0)).map VC by rw [Nat.add_zero]; exact (List.map_congr_left (g := VA) (fun j hj => by rw [hVC]; simp only [List.mem_range.1 hj, if_true])).symm] at hv0
      have HVC := Lib.hid hVC
      clear hVC hv
      obtain ⟨w6, rfl⟩ : ∃ x, x = wr := ⟨_, rfl⟩
      go_wp2_with fail
      go_loopw [7, 9] (fun v t wr => ∃ q : Nat, q ≤ k ∧ t = .int .i64 (q : Int) ∧ NewV w.heap.size 25 wr v ((List.range (k + q)).map VC) ∧ Below w.heap.size w wr) (fun _ t _ => k - (intOf t).toNat)
      case atStart => exact ⟨0, by omega, rfl, hv0, hb⟩
      case round =>
        clear hv0 hb hd
        obtain ⟨q, hq, rfl, hv, hb⟩ := hrel
        by_cases hlt : q < k
        · have hd : decide ((q : Int) < (k : Int)) = true := decide_eq_true (by omega)
          have hi : (q : Int) < (k : Int) := by omega
          obtain ⟨g, rfl, cell⟩ := (hLb.row.keep hb).place hlt
          obtain ⟨xa, xc, hV, _, _⟩ := hLb.fam.own hlt
          obtain ⟨z, hz⟩ : ∃ z, z = (AB q).length := ⟨_, rfl⟩
          rw [← hz] at hV
          rw [hV] at cell
          have e1 : Hid ((List.range (k + (q + 1))).map VC = (List.range (k + q)).map VC ++ [.slice xa z xc]) := Lib.hid (range_push (fun _ _ => rfl) (by
            rw [HVC.out]
            show (if k + q < k then VA (k + q) else VB (k + q - k)) = _
            rw [if_neg (by omega), show k + q - k = q by omega]
            exact hV))
          have LK : Hid (((List.range (k + q)).map VC).length = k + q) := Lib.hid (by simp)
          clear hV hz
          have al := (Below.refl wr.heap.size wr).alloc (Nat.le_refl _) (.cells #[.slice xa z xc] 25)
          have hv_ := hv.keep al
          have hB_ := hb.trans (al.mono hb.size)
          have lv_ := fun g hg => (hv_.lt g hg).1
          clear hv hb al
          go_wp2_with (at_builtin; refine wpList_append_newV _ rfl _ _ 23 rfl w.heap.size 25 24 Tryd.underlying23 infoL _ ((List.range (k + q)).map VC) rfl hv_ _ 1 (.slice xa z xc) ⟨_, _, _, rfl⟩ rfl (cell_new1 _ _ _ _) (by rw [LK.out]; omega) (by rw [LK.out]; omega) hB_.size ?_)
          intro v_ w7 hv7 hg_ ho_
          have hB7 := hB_.grown hg_ hB_.size lv_
          clear hv_ hg_ ho_ hB_ lv_
          go_wp2_with fail
          go_roundw
          case rel => exact ⟨q + 1, by omega, by go_num, by rw [e1.out]; exact hv7, hB7⟩
          case measure => simp [intOf]; omega
        · obtain rfl : q = k := by omega
          have hd : decide ((q : Int) < (q : Int)) = false := by simp
          clear hlt
          obtain ⟨AC, hAC⟩ : ∃ f : Nat → List Int, f = fun j => if j < q then AA j else AB (j - q) := ⟨_, rfl⟩
          have la := hLa.keep hb
          have lb := hLb.keep hb
          have fc : FamV B .u8 5 wr (q + q) VC AC := by
            rw [HVC.out, hAC]
            exact la.fam.join lb.fam HAB.out
          have hLc := Lists.mk (hv.mono hB) fc
          obtain ⟨ac, cc, rfl⟩ := hv.sl
          rw [List.length_map, List.length_range] at hLc ⊢
          have cp := spoil_c B (q + q) ac cc VC AC wr hLc (by omega) (fun j hj => by
            rw [hAC]
            by_cases e : j < q
            · simp only [e, if_true]; have := HZ.out.1 j e; omega
            · simp only [e, if_false]; have := HZ.out.2 (j - q) (by omega); omega) (Nat.le_trans hB hb.size)
          unfold SpoilPost at cp
          have nA := la.row
          have nB := lb.row
          have asA : Hid (∀ j, j < q + q → ∀ g, (VC j).ownBlock = some g → some g ≠ (Value.slice a q ca).ownBlock) := Lib.hid fun j hj g hg => nA.aside' (fc.new j hj) (by decide) g hg
          have asB : Hid (∀ j, j < q + q → ∀ g, (VC j).ownBlock = some g → some g ≠ (Value.slice b q cb).ownBlock) := Lib.hid fun j hj g hg => nB.aside' (fc.new j hj) (by decide) g hg
          have HBW := Lib.hid hB
          clear hLc fc la lb hAC hv hLa hLb hB HAB eA eB
          obtain ⟨w7, rfl⟩ : ∃ x, x = wr := ⟨_, rfl⟩
          go_wp2_with fail
          refine cp.mono ?_; rintro e_ w8 ⟨rfl, hF, hB8⟩
          have nA8 := hF.row nA asA.out
          have nB8 := hF.row nB asB.out
          have hBw : Below B w w8 := (hb.mono HBW.out).trans hB8
          clear cp nA nB hF hB8 hb asA asB HVC
          have hBs : B ≤ w8.heap.size := Nat.le_trans HBW.out hBw.size
          obtain ⟨NA, hNA⟩ : ∃ l, l = (List.range q).map VA := ⟨_, rfl⟩
          obtain ⟨NB, hNB⟩ : ∃ l, l = (List.range q).map VB := ⟨_, rfl⟩
          rw [← hNA] at nA8
          rw [← hNB] at nB8
          have lNA : NA.length = q := by rw [hNA]; simp
          have lNB : NB.length = q := by rw [hNB]; simp
          have hss : ∀ j, j < q → ∃ u, NA[j]? = some u := fun j hj => ⟨_, List.getElem?_eq_getElem (by rw [lNA]; exact hj)⟩
          clear hNA hNB hss
          have LN := Lib.hid (And.intro lNA lNB)
          clear lNA lNB
          go_wp2_with fail
          go_loopw [10] (fun t wr => ∃ (k : Nat) (vs : List Value), k ≤ q ∧ t = .int .i64 (k : Int) ∧ Hid (vs.length = q) ∧ NewV B 25 wr (.slice a q ca) vs ∧ Hid (∀ j, j < k → ∃ x c, vs[j]? = some (.slice x 1 c)) ∧ NewV B 25 wr (.slice b q cb) NB ∧ Below B w wr ∧ B ≤ wr.heap.size) (fun t _ => q - (intOf t).toNat)
          case atStart => exact ⟨0, NA, by omega, rfl, Lib.hid LN.out.1, nA8, Lib.hid (fun j h => by omega), nB8, hBw, hBs⟩
          case round =>
            clear nA8 nB8 hBw hBs hd
            obtain ⟨k, vs, hk, rfl, LV, nA, HP, nB, hBw, hBs⟩ := hrel
            by_cases hlt : k < q
            · have hd : decide ((k : Int) < (q : Int)) = true := decide_eq_true (by omega)
              have hi : (k : Int) < (q : Int) := by omega
              obtain ⟨g, rfl, hBg, cellA⟩ := nA.cell k (by rw [LV.out]; exact hlt)
              have hgl : g < wr.heap.size := (nA.lt g rfl).2
              have al := (Below.refl wr.heap.size wr).alloc (Nat.le_refl _) (.cells #[.int .u8 1] 5)
              have nA2 := nA.keep al
              have nB2 := nB.keep al
              have hB2 := hBw.trans (al.mono hBs)
              have as1 : (wr.alloc (.cells #[.int .u8 1] 5)).heap.size = wr.heap.size + 1 := by simp
              obtain ⟨hfr, nA3⟩ := nA2.put k (.slice (some ⟨wr.heap.size, 0, none⟩) 1 1)
              have nB3 := nB2.kept (grownBy_set (wr.alloc (.cells #[.int .u8 1] 5)) ⟨g, k, none⟩ (.slice (some ⟨wr.heap.size, 0, none⟩) 1 1)) (by
                cases hv : (Value.slice b q cb).ownBlock with
                | none => exact .inl rfl
                | some g' => exact .inr fun e => hab g rfl (by rw [hv]; exact e))
              have hB3 := hB2.setCell (p := ⟨g, k, none⟩) hBg (.slice (some ⟨wr.heap.size, 0, none⟩) 1 1)
              have hS3 : B ≤ ((wr.alloc (.cells #[.int .u8 1] 5)).setCell ⟨g, k, none⟩ (.slice (some ⟨wr.heap.size, 0, none⟩) 1 1)).heap.size := by simp; omega
              have HP3 : Hid (∀ j, j < k + 1 → ∃ x c, (vs.set k (.slice (some ⟨wr.heap.size, 0, none⟩) 1 1))[j]? = some (.slice x 1 c)) := Lib.hid fun j hj => by
                by_cases e : j = k
                · subst e
                  rw [List.getElem?_set_self (by rw [LV.out]; exact hlt)]
                  exact ⟨_, _, rfl⟩
                · rw [List.getElem?_set_ne (fun h => e h.symm)]
                  exact HP.out j (by omega)
              have cell2 : (wr.alloc (.cells #[.int .u8 1] 5)).cell? ⟨g, k, none⟩ = some (vs[k]'(by rw [LV.out]; exact hlt)) := by rw [World.cell?_of_block (w := wr) (al.block g hgl)]; exact cellA
              rw [World.setCell_alloc_past _ _ _ _ hgl] at nA3 nB3 hB3 hS3
              clear nA nB nA2 nB2 hBw hB2 al HP cellA as1
              go_wp2_with fail
              go_roundw
              case rel => exact ⟨k + 1, _, by omega, by go_num, Lib.hid (by rw [List.length_set]; exact LV.out), nA3, HP3, nB3, hB3, hS3⟩
              case measure => simp [intOf]; omega
            · obtain rfl : k = q := by omega
              have hd : decide ((k : Int) < (k : Int)) = false := by simp
              clear hlt
              have alA : AllLen 1 vs := fun u hu => by
                obtain ⟨j, hj, rfl⟩ := List.getElem_of_mem hu
                obtain ⟨x, c, e⟩ := HP.out j (by have := LV.out; omega)
                rw [List.getElem?_eq_getElem hj] at e
                exact ⟨x, c, Option.some.inj e⟩
              have ALA := Lib.hid alA
              clear alA HP
              obtain ⟨w9, rfl⟩ : ∃ x, x = wr := ⟨_, rfl⟩
              go_wp2_with fail
              go_loopw [11] (fun t wr => ∃ (j : Nat) (us : List Value), j ≤ k ∧ t = .int .i64 (j : Int) ∧ Hid (us.length = k) ∧ NewV B 25 wr (.slice b k cb) us ∧ Hid (∀ i, i < j → ∃ x c, us[i]? = some (.slice x 2 c)) ∧ NewV B 25 wr (.slice a k ca) vs ∧ Below B w wr ∧ B ≤ wr.heap.size) (fun t _ => k - (intOf t).toNat)
              case atStart => exact ⟨0, NB, by omega, rfl, Lib.hid LN.out.2, nB, Lib.hid (fun j h => by omega), nA, hBw, hBs⟩
              case round =>
                clear nA nB hBw hBs hd
                obtain ⟨j, us, hj, rfl, LU, nB, HP, nA, hBw, hBs⟩ := hrel
                by_cases hlt : j < k
                · have hd : decide ((j : Int) < (k : Int)) = true := decide_eq_true (by omega)
                  have hi : (j : Int) < (k : Int) := by omega
                  obtain ⟨g, rfl, hBg, cellA⟩ := nB.cell j (by rw [LU.out]; exact hlt)
                  have hgl : g < wr.heap.size := (nB.lt g rfl).2
                  have al := (Below.refl wr.heap.size wr).alloc (Nat.le_refl _) (.cells #[.int .u8 2, .int .u8 2] 5)
                  have nA2 := nB.keep al
                  have nB2 := nA.keep al
                  have hB2 := hBw.trans (al.mono hBs)
                  obtain ⟨hfr, nA3⟩ := nA2.put j (.slice (some ⟨wr.heap.size, 0, none⟩) 2 2)
                  have nB3 := nB2.kept (grownBy_set (wr.alloc (.cells #[.int .u8 2, .int .u8 2] 5)) ⟨g, j, none⟩ (.slice (some ⟨wr.heap.size, 0, none⟩) 2 2)) (by
                    cases hv : (Value.slice a k ca).ownBlock with
                    | none => exact .inl rfl
                    | some g' => exact .inr fun e => hab g (by rw [hv]; exact e) rfl)
                  have hB3 := hB2.setCell (p := ⟨g, j, none⟩) hBg (.slice (some ⟨wr.heap.size, 0, none⟩) 2 2)
                  have hS3 : B ≤ ((wr.alloc (.cells #[.int .u8 2, .int .u8 2] 5)).setCell ⟨g, j, none⟩ (.slice (some ⟨wr.heap.size, 0, none⟩) 2 2)).heap.size := by simp; omega
                  have HP3 : Hid (∀ i, i < j + 1 → ∃ x c, (us.set j (.slice (some ⟨wr.heap.size, 0, none⟩) 2 2))[i]? = some (.slice x 2 c)) := Lib.hid fun i hi => by
                    by_cases e : i = j
                    · subst e
                      rw [List.getElem?_set_self (by rw [LU.out]; exact hlt)]
                      exact ⟨_, _, rfl⟩
                    · rw [List.getElem?_set_ne (fun h => e h.symm)]
                      exact HP.out i (by omega)
                  have cell2 : (wr.alloc (.cells #[.int .u8 2, .int .u8 2] 5)).cell? ⟨g, j, none⟩ = some (us[j]'(by rw [LU.out]; exact hlt)) := by rw [World.cell?_of_block (w := wr) (al.block g hgl)]; exact cellA
                  rw [World.setCell_alloc_past _ _ _ _ hgl] at nA3 nB3 hB3 hS3
                  clear nA nB nA2 nB2 hBw hB2 al HP cellA
                  go_wp2_with fail
                  go_roundw
                  case rel => exact ⟨j + 1, _, by omega, by go_num, Lib.hid (by rw [List.length_set]; exact LU.out), nA3, HP3, nB3, hB3, hS3⟩
                  case measure => simp [intOf]; omega
                · obtain rfl : j = k := by omega
                  have hd : decide ((j : Int) < (j : Int)) = false := by simp
                  clear hlt
                  have alB : AllLen 2 us := fun u hu => by
                    obtain ⟨i, hi, rfl⟩ := List.getElem_of_mem hu
                    obtain ⟨x, c, e⟩ := HP.out i (by have := LU.out; omega)
                    rw [List.getElem?_eq_getElem hi] at e
                    exact ⟨x, c, Option.some.inj e⟩
                  have ALB := Lib.hid alB
                  clear alB HP
                  have rA := LenRow.of (n := j) nA ALA.out (by rw [LV.out]; exact Nat.le_refl _)
                  obtain ⟨w10, rfl⟩ : ∃ x, x = wr := ⟨_, rfl⟩
                  have hab2 : Hid (∀ g, (Value.slice a j ca).ownBlock = some g → (Value.slice b j cb).ownBlock ≠ some g) := Lib.hid hab
                  clear hab
                  go_wp2_with fail
                  go_loopw [12, 14] (fun x t wr => ∃ (i : Nat) (vx : List Value), i ≤ 70 ∧ t = .int .i64 (i : Int) ∧ Hid (vx.length = j + i) ∧ NewV B 25 wr x vx ∧ Hid (AllLen 1 vx) ∧ LenRow wr a j 1 ∧ NewV B 25 wr (.slice b j cb) us ∧ Hid (∀ g, x.ownBlock = some g → (Value.slice b j cb).ownBlock ≠ some g) ∧ Below B w wr ∧ B ≤ wr.heap.size) (fun _ t _ => 70 - (intOf t).toNat)
                  case atStart => exact ⟨0, vs, by omega, rfl, Lib.hid LV.out, nA, ALA, rA, nB, hab2, hBw, hBs⟩
                  case round =>
                    clear nA nB hBw hBs hd rA
                    obtain ⟨i, vx, hi, rfl, LX, nX, ALX, rA, nB, hxb, hBw, hBs⟩ := hrel
                    obtain ⟨ax, cx, rfl⟩ := nX.sl
                    have lx := LX.out
                    obtain ⟨zx, hzx⟩ : ∃ z, z = vx.length := ⟨_, rfl⟩
                    have HZX := Lib.hid hzx
                    rw [← hzx] at nX hxb ⊢
                    have zxi : zx = j + i := by rw [hzx, lx]
                    have ZXI := Lib.hid zxi
                    clear lx hzx
                    by_cases hlt : i < 70
                    · have hd : decide ((i : Int) < 70) = true := decide_eq_true (by omega)
                      have hi7 : (i : Int) < 70 := by omega
                      have zxb : zx ≤ 4194400 := by omega
                      clear zxi
                      have al1 := (Below.refl wr.heap.size wr).alloc (Nat.le_refl _) (.cells #[.int .u8 1] 5)
                      have al2 := (al1).trans (((Below.refl _ _).alloc (Nat.le_refl _) (.cells #[.slice (some ⟨wr.heap.size, 0, none⟩) 1 1] 25)).mono al1.size)
                      have as2 : ((wr.alloc (.cells #[.int .u8 1] 5)).alloc (.cells #[.slice (some ⟨wr.heap.size, 0, none⟩) 1 1] 25)).heap.size = wr.heap.size + 2 := by simp
                      have nX2 := nX.keep al2
                      have nB2 := nB.keep al2
                      have rA2 := rA.keep al2
                      have hB2 := hBw.trans (al2.mono hBs)
                      have hBs2 : B ≤ wr.heap.size + 2 := by omega
                      have hbl := fun g hg => (nB.lt g hg).2
                      have lvx := fun g hg => (nX2.lt g hg).1
                      clear nX nB rA hBw al1 al2
                      go_wp2_with (at_builtin; refine wpList_append_keepV _ rfl _ _ 23 rfl B 25 24 Tryd.underlying23 infoL _ vx rfl nX2 _ 1 (.slice (some ⟨wr.heap.size, 0, none⟩) 1 1) ⟨_, _, _, rfl⟩ rfl (by rw [cell_new1' _ _ _ _ _ (by simp)]) (by rw [← HZX.out]; omega) (by rw [← HZX.out]; omega) (by rw [as2]; exact hBs2) ?_)
                      intro v_ w12 nX4 nX3 hg4 ho4
                      have rA4 := LenRow.append (na := 0) (ca := 0) rA2 hg4 nX3 ALX.out (by rw [← HZX.out, ZXI.out]; omega) oa.out
                      have nB4 := nB2.kept hg4 (by
                        cases hv : (Value.slice b j cb).ownBlock with
                        | none => exact .inl rfl
                        | some g' => exact .inr fun e => hxb.out g' e.symm hv)
                      have hxb4 : Hid (∀ g, v_.ownBlock = some g → (Value.slice b j cb).ownBlock ≠ some g) := Lib.hid fun g hg e => by
                        rcases ho4 with h | ⟨g', h, h2⟩
                        · exact hxb.out g (by rw [← h]; exact hg) e
                        · rw [h] at hg
                          cases hg
                          have := hbl g e
                          omega
                      have hB4 := hB2.grown hg4 (by rw [as2]; exact hBs2) lvx
                      have hS4 := Nat.le_trans hBs2 (by have := hg4.size; rw [as2] at this; exact this)
                      clear nX2 nB2 rA2 hB2 hbl lvx nX3 hg4 ho4 hxb
                      go_wp2_with fail
                      go_roundw
                      case rel => exact ⟨i + 1, _, by omega, by go_num, Lib.hid (by rw [List.length_append, LX.out]; rfl), nX4, Lib.hid ALX.out.snoc, rA4, nB4, hxb4, hB4, hS4⟩
                      case measure => simp [intOf]; omega
                    · obtain rfl : i = 70 := by omega
                      rw [show ((70 : Nat) : Int) = 70 from rfl]
                      have hd : decide ((70 : Int) < 70) = false := by decide
                      have rX := LenRow.of (n := zx) nX ALX.out (by rw [← HZX.out]; exact Nat.le_refl _)
                      have rB := LenRow.of (n := j) nB ALB.out (by rw [LU.out]; exact Nat.le_refl _)
                      have zxb : zx ≤ 4194400 := by omega
                      have hxl : Hid (∀ g, (Value.slice ax zx cx).ownBlock = some g → g < wr.heap.size) := Lib.hid fun g hg => (nX.lt g hg).2
                      have hal : Hid (∀ g o, a = some ⟨g, o, none⟩ → 0 < j → g < wr.heap.size) := Lib.hid fun g o e hp => by
                        obtain ⟨b', o', ha', hc⟩ := rA hp
                        rw [e] at ha'
                        cases ha'
                        obtain ⟨x, c, hc⟩ := hc 0 hp
                        exact World.block_lt_of_cell? wr _ hc
                      clear zxi hlt
                      obtain ⟨w11, rfl⟩ : ∃ x, x = wr := ⟨_, rfl⟩
                      go_wp2_with fail
                      go_loopw [13, 15] (fun y t wr => ∃ (i : Nat) (vy : List Value), i ≤ 70 ∧ t = .int .i64 (i : Int) ∧ Hid (vy.length = j + i) ∧ NewV B 25 wr y vy ∧ Hid (AllLen 2 vy) ∧ LenRow wr a j 1 ∧ LenRow wr ax zx 1 ∧ LenRow wr b j 2 ∧ Hid (∀ g, y.ownBlock = some g → (Value.slice b j cb).ownBlock = some g ∨ w11.heap.size ≤ g) ∧ Below B w wr ∧ w11.heap.size ≤ wr.heap.size) (fun _ t _ => 70 - (intOf t).toNat)
                      case atStart => exact ⟨0, us, by omega, rfl, Lib.hid LU.out, nB, ALB, rA, rX, rB, Lib.hid (fun g hg => .inl hg), hBw, Nat.le_refl _⟩
                      case round =>
                        clear nX nB hBw hd rA rX rB
                        obtain ⟨i, vy, hi, rfl, LY, nY, ALY, rA, rX, rB, hy, hBw, hSz⟩ := hrel
                        obtain ⟨ay, cy, rfl⟩ := nY.sl
                        have ly := LY.out
                        obtain ⟨zy, hzy⟩ : ∃ z, z = vy.length := ⟨_, rfl⟩
                        have HZY := Lib.hid hzy
                        rw [← hzy] at nY hy ⊢
                        have zyi : zy = j + i := by rw [hzy, ly]
                        clear ly hzy
                        by_cases hlt : i < 70
                        · have hd : decide ((i : Int) < 70) = true := decide_eq_true (by omega)
                          have hi7 : (i : Int) < 70 := by omega
                          have zyb : zy ≤ 4194400 := by omega
                          have ZYI := Lib.hid zyi
                          clear zyi
                          have al1 := (Below.refl wr.heap.size wr).alloc (Nat.le_refl _) (.cells #[.int .u8 2, .int .u8 2] 5)
                          have al2 := (al1).trans (((Below.refl _ _).alloc (Nat.le_refl _) (.cells #[.slice (some ⟨wr.heap.size, 0, none⟩) 2 2] 25)).mono al1.size)
                          have as2 : ((wr.alloc (.cells #[.int .u8 2, .int .u8 2] 5)).alloc (.cells #[.slice (some ⟨wr.heap.size, 0, none⟩) 2 2] 25)).heap.size = wr.heap.size + 2 := by simp
                          have nY2 := nY.keep al2
                          have rA2 := rA.keep al2
                          have rX2 := rX.keep al2
                          have rB2 := rB.keep al2
                          have hB2 := hBw.trans (al2.mono (Nat.le_trans hBs hSz))
                          have hBs2 : B ≤ wr.heap.size + 2 := by omega
                          have lvy := fun g hg => (nY2.lt g hg).1
                          clear nY rA rX rB hBw al1 al2
                          go_wp2_with (at_builtin; refine wpList_append_keepV _ rfl _ _ 23 rfl B 25 24 Tryd.underlying23 infoL _ vy rfl nY2 _ 1 (.slice (some ⟨wr.heap.size, 0, none⟩) 2 2) ⟨_, _, _, rfl⟩ rfl (by rw [cell_new1' _ _ _ _ _ (by simp)]) (by rw [← HZY.out]; omega) (by rw [← HZY.out]; omega) (by rw [as2]; exact hBs2) ?_)
                          intro v_ w12 nY4 nY3 hg4 ho4
                          have rB4 := LenRow.append (na := 0) (ca := 0) rB2 hg4 nY3 ALY.out (by rw [← HZY.out, ZYI.out]; omega) ob.out
                          have rA4 : LenRow w12 a j 1 := by
                            by_cases hp : 0 < j
                            · refine rA2.grown hg4 fun g o e e2 => ?_
                              rcases hy.out g e2.symm with h | h
                              · exact hab2.out g (by rw [e]; rfl) h
                              · have := hal.out g o e hp
                                omega
                            · exact fun h => absurd h hp
                          have rX4 : LenRow w12 ax zx 1 := rX2.grown hg4 fun g o e e2 => by
                            rcases hy.out g e2.symm with h | h
                            · exact hxb.out g (by rw [e]; rfl) h
                            · have := hxl.out g (by rw [e]; rfl)
                              omega
                          have hy4 : Hid (∀ g, v_.ownBlock = some g → (Value.slice b j cb).ownBlock = some g ∨ w11.heap.size ≤ g) := Lib.hid fun g hg => by
                            rcases ho4 with h | ⟨g', h, h2⟩
                            · exact hy.out g (by rw [← h]; exact hg)
                            · rw [h] at hg
                              cases hg
                              exact .inr (by omega)
                          have hB4 := hB2.grown hg4 (by rw [as2]; exact hBs2) lvy
                          have hS4 : w11.heap.size ≤ w12.heap.size := by have := hg4.size; rw [as2] at this; omega
                          clear nY2 rA2 rX2 rB2 hB2 lvy nY3 hg4 ho4 hy
                          go_wp2_with fail
                          go_roundw
                          case rel => exact ⟨i + 1, _, by omega, by go_num, Lib.hid (by rw [List.length_append, LY.out]; rfl), nY4, Lib.hid ALY.out.snoc, rA4, rX4, rB4, hy4, hB4, hS4⟩
                          case measure => simp [intOf]; omega
                        · obtain rfl : i = 70 := by omega
                          rw [show ((70 : Nat) : Int) = 70 from rfl]
                          have hd : decide ((70 : Int) < 70) = false := by decide
                          have rY := LenRow.of (n := zy) nY ALY.out (by rw [← HZY.out]; exact Nat.le_refl _)
                          have zyb : zy ≤ 4194400 := by omega
                          clear zyi hlt nY
                          have e1 := all1_c a j ca 1 wr rA (by omega)
                          rw [show ((1 : Nat) : Int) = 1 from rfl] at e1
                          go_wp2_with fail
                          refine e1.mono ?_; rintro e_ wa ⟨rfl, n1, rfl⟩
                          have e2 := all1_c ax zx cx 1 _ (rX.drewN n1) (by omega)
                          rw [show ((1 : Nat) : Int) = 1 from rfl] at e2
                          clear e1
                          go_wp2_with fail
                          refine e2.mono ?_; rintro e_ wa ⟨rfl, n2, rfl⟩
                          have e3 := all1_c b j cb 2 _ (rB.drewN (n1 + n2)) (by omega)
                          rw [show ((2 : Nat) : Int) = 2 from rfl] at e3
                          clear e2
                          go_wp2_with fail
                          refine e3.mono ?_; rintro e_ wa ⟨rfl, n3, rfl⟩
                          have e4 := all1_c ay zy cy 2 _ (rY.drewN (n1 + n2 + n3)) (by omega)
                          rw [show ((2 : Nat) : Int) = 2 from rfl] at e4
                          clear e3
                          go_wp2_with fail
                          refine e4.mono ?_; rintro e_ wa ⟨rfl, n4, rfl⟩
                          clear e4
                          go_wp2_with fail
                          go_ret
                          exact ⟨rfl, below_drewN hBw (n1 + n2 + n3 + n4)⟩
end Go.Proofs.YtmbifokiebjmmaaDoor
/- Rows of the call's own, in regions that draw their order: a literal of one value, an append. Cuts of rows of strings. No program in sight. -/
set_option linter.unusedVariables false
set_option linter.unusedSimpArgs false
namespace Go.Sg
open Go.RowKit
theorem wp_append_newX {P : Program} {w : World} {o : Oper} {a : Act} {K : Act → World → Prop} {Q : Exit → Act → World → Prop} (s x : Operand) (t : TypeId)
    (ho : o.op = .call { callee := .builtin .append, args := #[s, x], argTypes := #[t, t] }) (B : Nat) (e : TypeId) (bytes : Nat) (z : Value) (hz1 : z.cells.size = 1) (ht : P.underlying t = some (.slice e))
    (hi : (P.info? e).map (fun i => (i.zero, i.size, i.bytes)) = some (some z, 1, bytes)) (v : Value) (vs : List Value) (hs : a.eval s = v) (hv : NewV B e w v vs)
    (ad : Addr) (c : Nat) (u : Value) (hone : u.oneCell' = true) (hx : a.eval x = .slice (some ad) 1 c) (hu : w.cell? ad = some u) (hm : vs.length + 1 ≤ 9223372036854775807) (hbytes : (vs.length + 1) * bytes ≤ 140737488355328) (hB : B ≤ w.heap.size)
    (h : ∀ v' w', NewV B e w' v' (vs ++ [u]) → w.grownBy w' v.ownBlock → (v'.ownBlock = v.ownBlock ∨ ∃ g, v'.ownBlock = some g ∧ w.heap.size ≤ g) → K (a.put o.dst v') w') : o.wp P a w K Q := by
  obtain ⟨v', w', hr, h2, h3, h4⟩ := run_append_newX (P := P) w B t o.type e bytes z hz1 ht hi v vs hv ad c u hone hu hm hbytes hB
  unfold Oper.wp execOp
  simp only [ho, resolve, invoke, builtin, Sem.run_bind, Sem.run_pure, Result.andThen_ok, List.map_toArray, List.map_cons, List.map_nil, hs, hx, hr]
  exact h v' w' h2 h3 h4
theorem Ss.take {w : World} {a : Option Addr} {cap : Nat} {ss : List (List Int)} (h : Ss w a cap ss) (k : Nat) : Ss w a cap (ss.take k) := by
  refine ⟨fun s hs => h.u8 s (List.mem_of_mem_take hs), Nat.le_trans (List.length_take_le' _ _) h.le, h.max, fun hp => ?_⟩
  rw [List.length_take] at hp
  obtain ⟨b, off, ha, hc⟩ := h.at_ (by omega)
  refine ⟨b, off, ha, fun j hj => ?_⟩
  rw [List.length_take] at hj
  rw [hc j (by omega), List.getElem_take]
theorem Ss.drop {w : World} {a : Option Addr} {cap : Nat} {ss : List (List Int)} (h : Ss w a cap ss) (k : Nat) (hk : k < ss.length) : Ss w (if cap - k = 0 then a else a.map (·.add k)) (cap - k) (ss.drop k) := by
  have hle := h.le
  refine ⟨fun s hs => h.u8 s (List.mem_of_mem_drop hs), by rw [List.length_drop]; omega, by have := h.max; omega, fun hp => ?_⟩
  obtain ⟨b, off, ha, hc⟩ := h.at_ (by omega)
  rw [if_neg (by omega), ha]
  refine ⟨b, off + k, by simp [Addr.add], fun j hj => ?_⟩
  rw [List.length_drop] at hj
  rw [Nat.add_assoc, hc (k + j) (by omega), List.getElem_drop]
theorem Ss.grown {w w' : World} {a : Option Addr} {cap : Nat} {ss : List (List Int)} {row : Option Nat} (h : Ss w a cap ss) (hg : w.grownBy w' row) (hne : ∀ x, a = some x → some x.block ≠ row) : Ss w' a cap ss := by
  refine ⟨h.u8, h.le, h.max, fun hp => ?_⟩
  obtain ⟨b, off, ha, hc⟩ := h.at_ hp
  refine ⟨b, off, ha, fun j hj => ?_⟩
  rw [World.cell?_of_block (w := w) (hg.block b (World.block_lt_of_cell? w _ (hc 0 hp)) (hne _ ha))]
  exact hc j hj
/-- Where the rows lie apart. -/
def Aside (a : Option Addr) (v : Value) : Prop := ∀ x, a = some x → some x.block ≠ v.ownBlock
theorem Aside.nil (a : Option Addr) : Aside a (.slice none 0 0) := fun x _ h => by simp [Value.ownBlock] at h
theorem Aside.grow {a : Option Addr} {v v' : Value} {n : Nat} (h : Aside a v) (ho : v'.ownBlock = v.ownBlock ∨ ∃ g, v'.ownBlock = some g ∧ n ≤ g) (hl : ∀ x, a = some x → x.block < n) : Aside a v' := by
  intro x ha e
  rcases ho with h1 | ⟨g, h1, h2⟩
  · exact h x ha (e.trans h1)
  · rw [h1] at e
    have := hl x ha
    have := Option.some.inj e
    omega
theorem Aside.move {a : Option Addr} {v : Value} (h : Aside a v) (c : Prop) [Decidable c] (k : Nat) : Aside (if c then a else a.map (·.add k)) v := by
  split
  · exact h
  · intro x ha
    cases a with
    | none => simp at ha
    | some y =>
      rw [Option.map_some] at ha
      have e := Option.some.inj ha
      subst e
      have : (y.add k).block = y.block := by unfold Addr.add; split <;> rfl
      rw [this]
      exact h y rfl
theorem Ss.lt {w : World} {a : Option Addr} {cap : Nat} {ss : List (List Int)} (h : Ss w a cap ss) (hp : 0 < ss.length) : ∀ x, a = some x → x.block < w.heap.size := by
  intro x ha
  obtain ⟨b', off, ha', hc⟩ := h.at_ hp
  rw [ha] at ha'
  cases ha'
  exact World.block_lt_of_cell? w _ (hc 0 hp)
theorem upL_dig {l : List (List Int)} (h : ∀ d ∈ l, Dig d) : ∀ d ∈ upL pairD l, Dig d := by
  match l with
  | [] => simp [upL]
  | [a] => simpa [upL] using h
  | a :: b :: l =>
    intro d hd
    simp only [upL, List.mem_cons] at hd
    rcases hd with rfl | hd
    · exact shaD_dig _
    · exact upL_dig (fun d hd => h d (by simp [hd])) d hd
theorem upL_at {α : Type} {P : α → α → α} : ∀ (j : Nat) (l : List α) (h : 2 * j + 1 < l.length), (upL P l)[j]? = some (P (l[2 * j]'(by omega)) l[2 * j + 1])
  | 0, a :: b :: l, _ => rfl
  | j + 1, a :: b :: l, h => by
    simp only [List.length_cons] at h
    have := upL_at (P := P) j l (by omega)
    simp only [upL, List.getElem?_cons_succ, this, show 2 * (j + 1) = 2 * j + 1 + 1 by omega, List.getElem_cons_succ]
  | 0, [a], h => by simp at h
  | 0, [], h => by simp at h
  | j + 1, [a], h => by simp at h
  | j + 1, [], h => by simp at h
theorem upL_last {α : Type} {P : α → α → α} : ∀ (j : Nat) (l : List α), l.length = 2 * j + 1 → (upL P l)[j]? = l[2 * j]?
  | 0, [a], _ => rfl
  | j + 1, a :: b :: l, h => by
    simp only [List.length_cons] at h
    simp only [upL, List.getElem?_cons_succ, upL_last j l (by omega), show 2 * (j + 1) = 2 * j + 1 + 1 by omega]
  | 0, [], h => by simp at h
  | 0, a :: b :: l, h => by simp at h
  | j + 1, [a], h => by simp at h
  | j + 1, [], h => by simp at h
end Go.Sg
/- signetref36: half, Grown by their contracts. -/
set_option linter.unusedVariables false
set_option linter.unusedSimpArgs false
namespace Go.Sg
open Go.RowKit
theorem waysH_same {h n : Nat} : waysH h n n = [] := by
  cases h with
  | zero => rfl
  | succ h => rw [waysH, if_pos rfl]
theorem waysH_succ {h n m : Nat} (hn : n ≤ 2 ^ h) : waysH (h + 1) n m = waysH h n m := by
  by_cases e : m = n
  · subst e; rw [waysH_same, waysH_same]
  · rw [waysH, if_neg e, if_pos hn]
theorem waysH_any {h h' n m : Nat} (h1 : n ≤ 2 ^ h) (h2 : n ≤ 2 ^ h') : waysH h n m = waysH h' n m := by
  have add : ∀ (h k : Nat), n ≤ 2 ^ h → waysH (h + k) n m = waysH h n m := by
    intro h k hn
    induction k with
    | zero => rfl
    | succ k ih => rw [← Nat.add_assoc, waysH_succ (Nat.le_trans hn (Nat.pow_le_pow_right (by omega) (by omega))), ih]
  by_cases c : h ≤ h'
  · obtain ⟨k, rfl⟩ : ∃ k, h' = h + k := ⟨h' - h, by omega⟩
    rw [add h k h1]
  · obtain ⟨k, rfl⟩ : ∃ k, h = h' + k := ⟨h - h', by omega⟩
    rw [add h' k h2]
theorem waysH_left {h n m j : Nat} (hh : n ≤ 2 ^ h) (hne : m ≠ n) (h1 : 2 ^ j < n) (h2 : n ≤ 2 ^ (j + 1)) (hm : m ≤ 2 ^ j) : waysH h n m = true :: waysH j (2 ^ j) m := by
  rw [waysH_any hh h2, waysH, if_neg hne, if_neg (by omega), if_pos hm]
theorem waysH_right {h n m j : Nat} (hh : n ≤ 2 ^ h) (hne : m ≠ n) (h1 : 2 ^ j < n) (h2 : n ≤ 2 ^ (j + 1)) (hm : ¬ m ≤ 2 ^ j) : waysH h n m = false :: waysH j (n - 2 ^ j) (m - 2 ^ j) := by
  rw [waysH_any hh h2, waysH, if_neg hne, if_neg (by omega), if_neg hm]
theorem waysH_le : ∀ (h n m : Nat), (waysH h n m).length ≤ h
  | 0, n, m => by simp [waysH]
  | h + 1, n, m => by
    rw [waysH]
    have i1 := waysH_le h n m
    have i2 := waysH_le h (2 ^ h) m
    have i3 := waysH_le h (n - 2 ^ h) (m - 2 ^ h)
    split
    · simp
    · split
      · omega
      · split <;> simp only [List.length_cons] <;> omega
theorem upW_nil {α : Type} {P : α → α → α} (x : α × α) (p : List α) : upW P [] x p = x := by cases p <;> rfl
end Go.Sg
namespace Go.Proofs.YtmbifokiebjmmaaDoor
open Go.RowKit Go.Sg
set_option maxHeartbeats 4000000 in
set_option maxRecDepth 20000 in
theorem half_c (n : Nat) (w : World) (h2 : 2 ≤ n) (hm : n ≤ 9223372036854775807) :
    Calls Tryd.prog 53 #[.int .i64 (n : Int)] w (fun e w' => ∃ k j : Nat, e = .returned (.int .i64 (k : Int)) ∧ k = 2 ^ j ∧ k < n ∧ n ≤ 2 ^ (j + 1) ∧ w' = w) := by
  go_enter Tryd.func53, Tryd.ntmps53
  go_wp2_with fail
  go_loopw [3] (fun t wr => ∃ k j : Nat, t = .int .i64 (k : Int) ∧ k = 2 ^ j ∧ k < n ∧ wr = w) (fun t _ => n - (intOf t).toNat)
  case atStart => exact ⟨1, 0, rfl, rfl, by omega, rfl⟩
  case round =>
    obtain ⟨k, j, rfl, hk, hj, hw⟩ := hrel
    subst hw
    have HK := Lib.hid hk
    have E2 := Lib.hid (pow2_succ j)
    have p0 : 0 < k := by rw [hk]; exact Nat.pow_pos (by omega)
    clear hk
    have ki : (k : Int) < (n : Int) := by omega
    have ni : (n : Int) ≤ 9223372036854775807 := by omega
    by_cases hlt : k < n - k
    · have hd : decide ((k : Int) < (n : Int) - (k : Int)) = true := decide_eq_true (by omega)
      have hi : (k : Int) < (n : Int) - (k : Int) := by omega
      go_wp2_with fail
      go_roundw
      case rel => exact ⟨k * 2, j + 1, by go_num, by rw [E2.out, ← HK.out]; omega, by omega, by first | trivial | rfl⟩
      case measure => simp [intOf]; omega
    · have hd : decide ((k : Int) < (n : Int) - (k : Int)) = false := decide_eq_false (by omega)
      have hi : ¬ (k : Int) < (n : Int) - (k : Int) := by omega
      go_wp2_with fail
      go_ret
      exact ⟨k, rfl, j, HK.out, hj, by rw [E2.out, ← HK.out]; omega, rfl⟩
/-- half as a number that is known ahead of the call. -/
theorem half_any (n : Nat) (h2 : 2 ≤ n) (hm : n ≤ 9223372036854775807) : ∃ k j : Nat, k = 2 ^ j ∧ k < n ∧ n ≤ 2 ^ (j + 1) ∧ ∀ w, Calls Tryd.prog 53 #[.int .i64 (n : Int)] w (fun e w' => e = .returned (.int .i64 (k : Int)) ∧ w' = w) := by
  have uniq : ∀ a b : Nat, 2 ^ a < n → n ≤ 2 ^ (a + 1) → 2 ^ b < n → n ≤ 2 ^ (b + 1) → a = b := fun a b a1 a2 b1 b2 => by
    have h1 := (Nat.pow_lt_pow_iff_right (a := 2) (by omega)).1 (Nat.lt_of_lt_of_le a1 b2)
    have h2 := (Nat.pow_lt_pow_iff_right (a := 2) (by omega)).1 (Nat.lt_of_lt_of_le b1 a2)
    omega
  have l1 := Nat.log2_self_le (n := n - 1) (by omega)
  have l2 := Nat.lt_log2_self (n := n - 1)
  refine ⟨2 ^ Nat.log2 (n - 1), Nat.log2 (n - 1), rfl, by omega, by omega, fun w => ?_⟩
  refine (half_c n w h2 hm).mono ?_
  rintro e w' ⟨k, j, rfl, rfl, h3, h4, rfl⟩
  obtain rfl := uniq j (Nat.log2 (n - 1)) h3 h4 (by omega) (by omega)
  exact ⟨rfl, rfl⟩
theorem infoB1 : (Tryd.prog.info? 4).map (fun i => (i.zero, i.size, i.bytes)) = some (some (.bool false), 1, 1) := by kernel_rfl

set_option maxHeartbeats 16000000 in
set_option maxRecDepth 20000 in
theorem rGrown_c (A : Option Addr) (cap : Nat) (old root : List Int) (p : List (List Int)) (n m : Int) (w : World) (uo : U8 old) (ur : U8 root) (hp : Ss w A cap p) (hpl : p.length ≤ 4294967296) (bm : m ≤ 9223372036854775807) (ht : RefTabs w) :
    Calls Tryd.prog 25 #[str old, .int .i64 n, str root, .int .i64 m, .slice A p.length cap] w (TellPost (decide (growP old n root m p)) w) := by
  have hc := hashes_c A cap p w hp
  have z1 : (strOfNums old).size = old.length := strOfNums_size _
  have z2 : (strOfNums root).size = root.length := strOfNums_size _
  obtain ⟨B, hB'⟩ : ∃ b, b = decide (∀ s ∈ p, s.length = 32) := ⟨_, rfl⟩
  have HB := Lib.hid hB'
  rw [← hB'] at hc
  clear hB'
  have no : ∀ {e : Ending} {w' : World}, ¬ growP old n root m p → e = .returned (.bool false) → w' = w → TellPost (decide (growP old n root m p)) w e w' := fun h he hw => by
    subst hw
    rw [decide_eq_false h]
    exact ⟨he, .refl _ _⟩
  by_cases h3 : 0 ≤ n
  · have g3 : decide (n < 0) = false := decide_eq_false (by omega)
    have g3' : ¬ n < 0 := by omega
    by_cases h4 : n ≤ m
    · have g4 : decide (m < n) = false := decide_eq_false (by omega)
      have g4' : ¬ m < n := by omega
      by_cases h1 : old.length = 32
      · have g1 : ((old.length : Int) != 32) = false := by simp; omega
        by_cases h2 : root.length = 32
        · have g2 : ((root.length : Int) != 32) = false := by simp; omega
          cases B with
          | false =>
            obtain ⟨z, hz⟩ : ∃ z, z = p.length := ⟨_, rfl⟩
            rw [← hz] at hc ⊢
            clear hz
            go_enter Tryd.func25, Tryd.ntmps25
            go_wp2_with fail
            refine hc.mono ?_; rintro e_ w1 ⟨rfl, hw1⟩
            have hw2 := hw1.symm; subst hw2; clear hw1
            go_wp2_with fail
            go_ret
            exact no (fun h => of_decide_eq_false HB.out.symm h.2.1) rfl rfl
          | true =>
            have hall := of_decide_eq_true HB.out.symm
            obtain ⟨N, rfl⟩ : ∃ N : Nat, n = (N : Int) := ⟨n.toNat, by omega⟩
            obtain ⟨M, rfl⟩ : ∃ M : Nat, m = (M : Int) := ⟨m.toNat, by omega⟩
            by_cases h0 : N = 0
            · subst h0
              rw [show ((0 : Nat) : Int) = 0 from rfl] at no h3 h4 g3 g3' g4 g4' ⊢
              have cs := sum_c [] w (.nil (by decide)) (by simp) ht
              have EQ : Hid (decide (growP old 0 root (M : Int) p) = (decide (p = []) && (decide (old = shaD []) && (decide (0 < M) || decide (root = old))))) := Lib.hid (by
                have e : growP old 0 root (M : Int) p ↔ (p = [] ∧ old = shaD [] ∧ (0 < M ∨ root = old)) := by
                  unfold growP
                  rw [if_pos (show (0 : Int) = 0 from rfl)]
                  exact ⟨fun h => ⟨h.2.2.2.2.1, h.2.2.2.2.2.1, h.2.2.2.2.2.2.imp (fun h => by omega) id⟩, fun h => ⟨⟨h1, h2⟩, hall, h3, h4, h.1, h.2.1, h.2.2.imp (fun h => by omega) id⟩⟩
                exact Bool.eq_iff_iff.2 (by
                  simp only [decide_eq_true_eq, Bool.and_eq_true, Bool.or_eq_true]
                  exact e))
              have se := str_eq uo (shaD_dig []).2
              have se2 := str_eq ur uo
              obtain ⟨z, hz⟩ : ∃ z, z = p.length := ⟨_, rfl⟩
              rw [← hz] at hc ⊢
              by_cases hz0 : z = 0
              · have e0 : p = [] := List.length_eq_zero_iff.1 (by omega)
                subst hz0
                by_cases ho : old = shaD []
                · have eo : decide (old = shaD []) = true := decide_eq_true ho
                  by_cases hM : 0 < M
                  · have eM : decide (0 < M) = true := decide_eq_true hM
                    have F : Hid (decide (growP old 0 root (M : Int) p) = true) := Lib.hid (by rw [EQ.out, eo, eM, decide_eq_true e0]; rfl)
                    have eM2 : decide ((0 : Int) < (M : Int)) = true := decide_eq_true (by omega)
                    rw [eo] at se
                    clear ho eo no hall e0 hz
                    go_enter Tryd.func25, Tryd.ntmps25
                    go_wp2_with fail
                    refine hc.mono ?_; rintro e_ w1 ⟨rfl, hw1⟩
                    have hw2 := hw1.symm; subst hw2; clear hw1 hc
                    go_wp2_with fail
                    refine cs.mono ?_; rintro e_ w2 ⟨rfl, hb⟩
                    clear cs
                    go_wp2_with fail
                    go_ret
                    exact ⟨by rw [F.out]; rfl, hb⟩
                  · obtain rfl : M = 0 := by omega
                    obtain ⟨R, hR⟩ : ∃ R, R = decide (root = old) := ⟨_, rfl⟩
                    rw [show ((0 : Nat) : Int) = 0 from rfl] at EQ ⊢
                    have F : Hid (decide (growP old 0 root 0 p) = R) := Lib.hid (by rw [EQ.out, eo, decide_eq_true e0, ← hR]; rfl)
                    rw [eo] at se
                    rw [← hR] at se2
                    clear ho eo no hall e0 hz hR
                    go_enter Tryd.func25, Tryd.ntmps25
                    go_wp2_with fail
                    refine hc.mono ?_; rintro e_ w1 ⟨rfl, hw1⟩
                    have hw2 := hw1.symm; subst hw2; clear hw1 hc
                    go_wp2_with fail
                    refine cs.mono ?_; rintro e_ w2 ⟨rfl, hb⟩
                    clear cs
                    go_wp2_with fail
                    go_ret
                    exact ⟨by rw [F.out]; rfl, hb⟩
                · have eo : decide (old = shaD []) = false := decide_eq_false ho
                  have F : Hid (decide (growP old 0 root (M : Int) p) = false) := Lib.hid (by rw [EQ.out, eo]; simp)
                  rw [eo] at se
                  clear ho eo no hall e0 hz
                  go_enter Tryd.func25, Tryd.ntmps25
                  go_wp2_with fail
                  refine hc.mono ?_; rintro e_ w1 ⟨rfl, hw1⟩
                  have hw2 := hw1.symm; subst hw2; clear hw1 hc
                  go_wp2_with fail
                  refine cs.mono ?_; rintro e_ w2 ⟨rfl, hb⟩
                  clear cs
                  go_wp2_with fail
                  go_ret
                  exact ⟨by rw [F.out]; rfl, hb⟩
              · have z0 : ((z : Int) == 0) = false := by simp; omega
                have F : Hid (decide (growP old 0 root (M : Int) p) = false) := Lib.hid (by
                  rw [EQ.out, decide_eq_false (show ¬ p = [] from fun h => by subst h; simp at hz; omega)]
                  rfl)
                clear no hall hz
                go_enter Tryd.func25, Tryd.ntmps25
                go_wp2_with fail
                refine hc.mono ?_; rintro e_ w1 ⟨rfl, hw1⟩
                have hw2 := hw1.symm; subst hw2; clear hw1 hc
                go_wp2_with fail
                go_ret
                exact ⟨by rw [F.out]; rfl, .refl _ _⟩
            · have n0 : ((N : Int) == 0) = false := by simp; omega
              by_cases hNM : N = M
              · subst hNM
                have se2 := str_eq ur uo
                obtain ⟨R, hR⟩ : ∃ R, R = decide (root = old) := ⟨_, rfl⟩
                obtain ⟨z, hz⟩ : ∃ z, z = p.length := ⟨_, rfl⟩
                rw [← hz] at hc ⊢
                have EQ : Hid (decide (growP old (N : Int) root (N : Int) p) = (((z : Int) == 0) && R)) := Lib.hid (by
                  have e : growP old (N : Int) root (N : Int) p ↔ (p = [] ∧ root = old) := by
                    unfold growP
                    rw [if_neg (by omega), Int.toNat_natCast, bothH_same]
                    have e2 : lastB true old p = some (old, root) ↔ (p = [] ∧ root = old) := by
                      unfold lastB
                      rw [if_pos rfl]
                      by_cases h : p = []
                      · rw [if_pos h]
                        simp [h, eq_comm]
                      · rw [if_neg h]
                        simp [h]
                    exact ⟨fun h => e2.1 h.2.2.2.2, fun h => ⟨⟨h1, h2⟩, hall, by omega, by omega, e2.2 h⟩⟩
                  rw [hR]
                  exact Bool.eq_iff_iff.2 (by
                    simp only [decide_eq_true_eq, Bool.and_eq_true, beq_iff_eq]
                    rw [e]
                    exact and_congr_left fun _ => ⟨fun h => by subst h; simpa using hz, fun h => List.length_eq_zero_iff.1 (by omega)⟩))
                rw [← hR] at se2
                by_cases hz0 : z = 0
                · subst hz0
                  clear no hall hz hR
                  go_enter Tryd.func25, Tryd.ntmps25
                  go_wp2_with fail
                  refine hc.mono ?_; rintro e_ w1 ⟨rfl, hw1⟩
                  have hw2 := hw1.symm; subst hw2; clear hw1 hc
                  go_wp2_with fail
                  go_ret
                  exact ⟨by rw [EQ.out]; rfl, .refl _ _⟩
                · have z0 : ((z : Int) == 0) = false := by simp; omega
                  clear no hall hz hR
                  go_enter Tryd.func25, Tryd.ntmps25
                  go_wp2_with fail
                  refine hc.mono ?_; rintro e_ w1 ⟨rfl, hw1⟩
                  have hw2 := hw1.symm; subst hw2; clear hw1 hc
                  go_wp2_with fail
                  go_ret
                  exact ⟨by rw [EQ.out, z0]; rfl, .refl _ _⟩
              · have nm : ((N : Int) == (M : Int)) = false := by simp; omega
                have hM9 : M ≤ 9223372036854775807 := by omega
                have hNM' : N < M := by omega
                obtain ⟨WS, hWS⟩ : ∃ l, l = waysH 63 M N := ⟨_, rfl⟩
                have HWS := Lib.hid hWS
                have LWS : WS.length ≤ 63 := by rw [hWS]; exact waysH_le _ _ _
                have EQ : Hid (decide (growP old (N : Int) root (M : Int) p) = decide (shownW pairD WS true old p = some (old, root))) := Lib.hid (by
                  have e : growP old (N : Int) root (M : Int) p ↔ shownW pairD WS true old p = some (old, root) := by
                    unfold growP
                    rw [if_neg (by omega), Int.toNat_natCast, Int.toNat_natCast, bothH_ways _ _ _ _ _ _ (by omega) (by omega) (by omega), ← hWS]
                    exact ⟨fun h => h.2.2.2.2, fun h => ⟨⟨h1, h2⟩, hall, by omega, by omega, h⟩⟩
                  exact decide_eq_decide.2 e)
                have LO := Lib.hid h1
                have HALL := Lib.hid hall
                obtain ⟨z, hz⟩ : ∃ z, z = p.length := ⟨_, rfl⟩
                have HZ := Lib.hid hz
                rw [← hz] at hc ⊢
                have hpz : z ≤ 4294967296 := by omega
                clear hWS hall no hz
                go_enter Tryd.func25, Tryd.ntmps25
                go_wp2_with fail
                refine hc.mono ?_; rintro e_ w1 ⟨rfl, hw1⟩
                have hw2 := hw1.symm; subst hw2; clear hw1 hc
                go_wp2_with fail
                clear h1 h2 g1 g2 g3 g3' g4 g4' h3 h4 n0 nm
                go_loopw [11, 12, 13, 14, 15] (fun l wh sm sn sk wr => ∃ (h mm nn : Nat) (L : List Bool), sm = .int .i64 (mm : Int) ∧ sn = .int .i64 (nn : Int) ∧ wh = .bool (L.all id) ∧ NewV w.heap.size 4 wr l (L.map Value.bool) ∧ L ++ waysH h nn mm = WS ∧ 1 ≤ mm ∧ mm ≤ nn ∧ nn ≤ 2 ^ h ∧ nn ≤ M ∧ Below w.heap.size w wr) (fun _ _ _ sn _ _ => (intOf sn).toNat)
                case atStart => exact ⟨63, N, M, [], rfl, rfl, rfl, .nil _ _ _, HWS.out.symm, by omega, by omega, by omega, by omega, .refl _ _⟩
                case round =>
                  obtain ⟨h, mm, nn, L, rfl, rfl, rfl, hv, hL, hm1, hmn, hnh, hnM, hb⟩ := hrel
                  have HL := Lib.hid hL
                  have LL : L.length ≤ 63 := by rw [← hL, List.length_append] at LWS; omega
                  have HNH := Lib.hid hnh
                  clear hL hnh
                  obtain ⟨wA, hwA⟩ : ∃ b, b = L.all id := ⟨_, rfl⟩
                  have HWA := Lib.hid hwA
                  rw [← hwA]
                  clear hwA
                  by_cases hlt : mm < nn
                  · obtain ⟨k, j, hk, hkn, hnk, hs⟩ := half_any nn (by omega) (by omega)
                    have HK := Lib.hid hk
                    have l1 : decide ((mm : Int) < (nn : Int)) = true := decide_eq_true (by omega)
                    have l1' : (mm : Int) < (nn : Int) := by omega
                    have l1n : decide (mm < nn) = true := decide_eq_true hlt
                    have ni : (nn : Int) ≤ 9223372036854775807 := by omega
                    have k0 : 0 < k := by rw [hk]; exact Nat.pow_pos (by omega)
                    clear hk
                    go_wp2_with fail
                    refine (hs _).mono ?_; rintro e_ w2 ⟨rfl, hw'⟩; have hw2 := hw'.symm; subst hw2; clear hw'
                    by_cases hle : mm ≤ k
                    · have l2 : decide ((mm : Int) ≤ (k : Int)) = true := decide_eq_true (by omega)
                      have l2' : (mm : Int) ≤ (k : Int) := by omega
                      have l2n : decide (mm ≤ k) = true := decide_eq_true hle
                      have al := (Below.refl wr.heap.size wr).alloc (Nat.le_refl _) (.cells #[.bool true] 4)
                      have hv1 := hv.keep al
                      have hB1 := hb.trans (al.mono hb.size)
                      have lv := fun g hg => (hv.lt g hg).1
                      clear hv hb
                      go_wp2_with (at_builtin; refine wpList_append_newX _ rfl _ _ 79 rfl w.heap.size 4 1 (.bool false) rfl Tryd.underlying79 infoB1 _ _ rfl hv1 _ 1 (.bool true) rfl rfl (cell_new1 _ _ _ _) (by rw [List.length_map]; omega) (by rw [List.length_map]; omega) hB1.size ?_)
                      intro v' w2 hv2 hg2 ho2
                      have hB2 := hB1.grown hg2 hB1.size lv
                      clear hv1 hg2 ho2 hB1 lv
                      go_wp2_with fail
                      go_roundw
                      case rel =>
                        refine ⟨j, mm, k, L ++ [true], rfl, rfl, by rw [HWA.out]; simp, by rw [List.map_append]; exact hv2, ?_, hm1, hle, by rw [HK.out]; exact Nat.le_refl _, by omega, hB2⟩
                        rw [← HL.out, waysH_left HNH.out (by omega) (by rw [← HK.out]; exact hkn) hnk (by rw [← HK.out]; exact hle), ← HK.out]
                        simp
                      case measure => simp [intOf]; omega
                    · have l2 : decide ((mm : Int) ≤ (k : Int)) = false := decide_eq_false (by omega)
                      have l2' : ¬ (mm : Int) ≤ (k : Int) := by omega
                      have l2n : decide (mm ≤ k) = false := decide_eq_false hle
                      have l2k : (k : Int) < (mm : Int) := by omega
                      have al := (Below.refl wr.heap.size wr).alloc (Nat.le_refl _) (.cells #[.bool false] 4)
                      have hv1 := hv.keep al
                      have hB1 := hb.trans (al.mono hb.size)
                      have lv := fun g hg => (hv.lt g hg).1
                      clear hv hb
                      go_wp2_with (at_builtin; refine wpList_append_newX _ rfl _ _ 79 rfl w.heap.size 4 1 (.bool false) rfl Tryd.underlying79 infoB1 _ _ rfl hv1 _ 1 (.bool false) rfl rfl (cell_new1 _ _ _ _) (by rw [List.length_map]; omega) (by rw [List.length_map]; omega) hB1.size ?_)
                      intro v' w2 hv2 hg2 ho2
                      have hB2 := hB1.grown hg2 hB1.size lv
                      clear hv1 hg2 ho2 hB1 lv
                      go_wp2_with fail
                      go_roundw
                      case rel =>
                        refine ⟨j, mm - k, nn - k, L ++ [false], by go_num, by go_num, by simp, by rw [List.map_append]; exact hv2, ?_, by omega, by omega, by have := HK.out; have := pow2_succ j; omega, by omega, hB2⟩
                        rw [← HL.out, waysH_right HNH.out (by omega) (by rw [← HK.out]; exact hkn) hnk (by rw [← HK.out]; exact hle), ← HK.out]
                        simp
                      case measure => simp [intOf]; omega
                  · obtain rfl : mm = nn := by omega
                    have EL : L = WS := by rw [← HL.out, waysH_same, List.append_nil]
                    subst EL
                    obtain ⟨aL, cL, rfl⟩ := hv.sl
                    rw [List.length_map] at hv ⊢
                    obtain ⟨Y, hY⟩ : ∃ y, y = L.length := ⟨_, rfl⟩
                    have HYY := Lib.hid hY
                    rw [← hY] at hv ⊢
                    have hY63 : Y ≤ 63 := by omega
                    have l1 : decide ((mm : Int) < (mm : Int)) = false := decide_eq_false (by omega)
                    obtain ⟨S, hS⟩ : ∃ s, s = L.reverse := ⟨_, rfl⟩
                    have HS := Lib.hid hS
                    clear hY hS
                    cases wA with
                    | true =>
                      have SH : Hid (shownW pairD L true old p = if z = Y then some (upW pairD S (old, old) p) else none) := Lib.hid (by
                        unfold shownW
                        rw [← HWA.out, Bool.and_self, if_pos rfl, ← HZ.out, ← HYY.out, ← HS.out])
                      by_cases hzY : z = Y
                      · have EQ2 : Hid (decide (growP old (N : Int) root (M : Int) p) = decide (upW pairD S (old, old) p = (old, root))) := Lib.hid (by
                          rw [EQ.out, SH.out, if_pos hzY]
                          exact decide_eq_decide.2 (by simp))
                        have ne : ((z : Int) != (Y : Int)) = false := by subst hzY; simp
                        obtain ⟨T, hT⟩ : ∃ T, T = upW pairD S (old, old) p := ⟨_, rfl⟩
                        rw [← hT] at EQ2
                        have HT := Lib.hid hT
                        clear hT SH
                        have start : Hid ((Y + 0 = Y ∧ 0 + Y = z) ∧ (U8 old ∧ old.length = 32) ∧ upW pairD (S.drop 0) (old, old) (p.drop 0) = T) := Lib.hid ⟨⟨by omega, by omega⟩, ⟨uo, LO.out⟩, by rw [HT.out]; rfl⟩
                        clear hzY
                        go_wp2_with fail
                        clear ne
                        go_loopw [16, 17, 18, 19] (fun sa si sb sj wr => ∃ (s t c : Nat) (x v : List Int), sa = str x ∧ si = .int .i64 (c : Int) ∧ sb = str v ∧ sj = .int .i64 ((s : Int) - 1) ∧ s + t = Y ∧ c + s = z ∧ U8 x ∧ U8 v ∧ x.length = 32 ∧ v.length = 32 ∧ Hid (upW pairD (S.drop t) (x, v) (p.drop c) = T) ∧ NewV w.heap.size 4 wr (.slice aL Y cL) (L.map Value.bool) ∧ Below w.heap.size w wr) (fun _ _ _ sj _ => (intOf sj + 1).toNat)
                        case atStart => exact ⟨Y, 0, 0, old, old, rfl, rfl, rfl, rfl, start.out.1.1, start.out.1.2, start.out.2.1.1, start.out.2.1.1, start.out.2.1.2, start.out.2.1.2, Lib.hid start.out.2.2, hv, hb⟩
                        case round =>
                          obtain ⟨s, t, c, x, v, rfl, rfl, rfl, rfl, hst, hcs, ux, uv, lx, lv, HT2, hvr, hbr⟩ := hrel
                          clear hv hb
                          cases s with
                          | zero =>
                            have en : T = (x, v) := by
                              rw [← HT2.out, List.drop_of_length_le (by rw [HS.out, List.length_reverse, ← HYY.out]; omega), upW_nil]
                            subst en
                            have se := str_eq ux uo
                            have se2 := str_eq uv ur
                            rw [show ((0 : Nat) : Int) - 1 = -1 from rfl]
                            by_cases hx : x = old
                            · have ex : decide (x = old) = true := decide_eq_true hx
                              obtain ⟨R, hR⟩ : ∃ R, R = decide (v = root) := ⟨_, rfl⟩
                              have F : Hid (decide (growP old (N : Int) root (M : Int) p) = R) := Lib.hid (by
                                rw [EQ2.out, hR]
                                exact decide_eq_decide.2 (by simp [hx]))
                              rw [ex] at se
                              rw [← hR] at se2
                              clear hx ex hR
                              go_wp2_with fail
                              go_ret
                              exact ⟨by rw [F.out]; rfl, hbr⟩
                            · have ex : decide (x = old) = false := decide_eq_false hx
                              have F : Hid (decide (growP old (N : Int) root (M : Int) p) = false) := Lib.hid (by
                                rw [EQ2.out]
                                exact decide_eq_false (by simp [hx]))
                              rw [ex] at se
                              clear hx ex
                              go_wp2_with fail
                              go_ret
                              exact ⟨by rw [F.out]; rfl, hbr⟩
                          | succ s =>
                            rw [show ((s + 1 : Nat) : Int) - 1 = (s : Int) by omega]
                            have hsL : s < L.length := by rw [← HYY.out]; omega
                            obtain ⟨gL, ea, _, hcl⟩ := hvr.cell s (by rw [List.length_map]; exact hsL)
                            subst ea
                            rw [List.getElem_map] at hcl
                            obtain ⟨bj, hbj⟩ : ∃ b, b = L[s] := ⟨_, rfl⟩
                            rw [← hbj] at hcl
                            have ed1 : Hid (S.drop t = bj :: S.drop (t + 1)) := Lib.hid (by
                              have e1 : t < S.length := by rw [HS.out, List.length_reverse, ← HYY.out]; omega
                              rw [List.drop_eq_getElem_cons e1]
                              congr 1
                              simp only [HS.out, List.getElem_reverse, hbj]
                              congr 1
                              have := HYY.out
                              omega)
                            obtain ⟨b, off, eA, hcc⟩ := (hp.below hbr).at_ (by rw [← HZ.out]; omega)
                            try subst eA
                            try cases eA
                            have ck2 := hcc c (by rw [← HZ.out]; omega)
                            obtain ⟨q, hq⟩ : ∃ q, q = p[c]'(by rw [← HZ.out]; omega) := ⟨_, rfl⟩
                            have hmem2 : q ∈ p := by rw [hq]; exact List.getElem_mem _
                            rw [← hq] at ck2
                            have uq := hp.u8 q hmem2
                            have lq := HALL.out q hmem2
                            have ed2 : Hid (p.drop c = q :: p.drop (c + 1)) := Lib.hid (by rw [hq]; exact List.drop_eq_getElem_cons (by rw [← HZ.out]; omega))
                            have cz : (c : Int) < (z : Int) := by omega
                            have sY : (s : Int) < (Y : Int) := by omega
                            have HT3 : Hid (upW pairD (S.drop (t + 1)) (stepW pairD (x, v) bj q) (p.drop (c + 1)) = T) := Lib.hid (by rw [← HT2.out, ed1.out, ed2.out]; rfl)
                            clear hcc hq hbj HT2 ed1 ed2 hsL
                            cases bj with
                            | true =>
                              have c1 := rPair_c v q wr uv uq (by omega) (ht.below hbr)
                              go_wp2_with fail
                              refine c1.mono ?_; rintro e_ w3 ⟨rfl, hb3⟩
                              have hv3 := hvr.keep hb3
                              have hB3 := hbr.trans (hb3.mono hbr.size)
                              clear c1 hb3 hvr hbr
                              go_wp2_with fail
                              go_roundw
                              case rel => exact ⟨s, t + 1, c + 1, x, pairD v q, rfl, by go_num, rfl, by go_num, by omega, by omega, ux, (shaD_dig _).2, lx, (shaD_dig _).1, HT3, hv3, hB3⟩
                              case measure => simp [intOf]
                            | false =>
                              have c1 := rPair_c q x wr uq ux (by omega) (ht.below hbr)
                              go_wp2_with fail
                              refine c1.mono ?_; rintro e_ w3 ⟨rfl, hb3⟩
                              have hv3 := hvr.keep hb3
                              have hB3 := hbr.trans (hb3.mono hbr.size)
                              have c2 := rPair_c q v w3 uq uv (by omega) (ht.below hB3)
                              have ck3 : w3.cell? ⟨b, off + c, none⟩ = some (str q) := by rw [World.cell?_of_block (w := wr) (hb3.block b (World.block_lt_of_cell? _ _ ck2))]; exact ck2
                              clear c1 hb3 hvr hbr ck2
                              go_wp2_with fail
                              refine c2.mono ?_; rintro e_ w4 ⟨rfl, hb4⟩
                              have hv4 := hv3.keep hb4
                              have hB4 := hB3.trans (hb4.mono hB3.size)
                              clear c2 hb4 hv3 hB3
                              go_wp2_with fail
                              go_roundw
                              case rel => exact ⟨s, t + 1, c + 1, pairD q x, pairD q v, rfl, by go_num, rfl, by go_num, by omega, by omega, (shaD_dig _).2, (shaD_dig _).2, (shaD_dig _).1, (shaD_dig _).1, HT3, hv4, hB4⟩
                              case measure => simp [intOf]
                      · have ne : ((z : Int) != (Y : Int)) = true := by simp; omega
                        go_wp2_with fail
                        go_ret
                        exact ⟨by rw [EQ.out, SH.out, if_neg hzY]; rfl, hb⟩
                    | false =>
                      by_cases hz0 : z = 0
                      · have z0 : ((z : Int) == 0) = true := by simp; omega
                        have SH : Hid (shownW pairD L true old p = none) := Lib.hid (by
                          have e0 : p = [] := List.length_eq_zero_iff.1 (by rw [← HZ.out]; exact hz0)
                          unfold shownW
                          rw [← HWA.out, Bool.and_false, if_neg (by simp), e0])
                        go_wp2_with fail
                        go_ret
                        exact ⟨by rw [EQ.out, SH.out]; rfl, hb⟩
                      · have z0 : ((z : Int) == 0) = false := by simp; omega
                        obtain ⟨q0, hq0⟩ : ∃ q, q = p[0]'(by rw [← HZ.out]; omega) := ⟨_, rfl⟩
                        have hmem : q0 ∈ p := by rw [hq0]; exact List.getElem_mem _
                        obtain ⟨b, off, rfl, hcc⟩ := (hp.below hb).at_ (by rw [← HZ.out]; omega)
                        have ck := hcc 0 (by rw [← HZ.out]; omega)
                        rw [← hq0] at ck
                        have e0 : Hid (p = q0 :: p.drop 1) := Lib.hid (by rw [hq0]; exact (List.drop_eq_getElem_cons (l := p) (i := 0) (by rw [← HZ.out]; omega)))
                        have SH : Hid (shownW pairD L true old p = if z - 1 = Y then some (upW pairD S (q0, q0) (p.drop 1)) else none) := Lib.hid (by
                          have e1 : (p.drop 1).length = z - 1 := by rw [List.length_drop, ← HZ.out]
                          unfold shownW
                          rw [← HWA.out, Bool.and_false, if_neg (by simp), e0.out]
                          simp only [List.drop_succ_cons, List.drop_zero]
                          rw [e1, ← HYY.out, ← HS.out])
                        have uq0 := hp.u8 q0 hmem
                        have lq0 := HALL.out q0 hmem
                        have zp : 0 < z := by omega
                        have zp2 : (0 : Int) < (z : Int) := by omega
                        have zp3 : (1 : Int) ≤ (z : Int) := by omega
                        clear hq0 hcc
                        rw [Nat.add_zero] at ck
                        by_cases hzY : z - 1 = Y
                        · have EQ2 : Hid (decide (growP old (N : Int) root (M : Int) p) = decide (upW pairD S (q0, q0) (p.drop 1) = (old, root))) := Lib.hid (by
                            rw [EQ.out, SH.out, if_pos hzY]
                            exact decide_eq_decide.2 (by simp))
                          have ne : ((z : Int) - 1 != (Y : Int)) = false := by simp; omega
                          obtain ⟨T, hT⟩ : ∃ T, T = upW pairD S (q0, q0) (p.drop 1) := ⟨_, rfl⟩
                          rw [← hT] at EQ2
                          have HT := Lib.hid hT
                          clear hT SH
                          have start : Hid ((Y + 0 = Y ∧ 1 + Y = z) ∧ (U8 q0 ∧ q0.length = 32) ∧ upW pairD (S.drop 0) (q0, q0) (p.drop 1) = T) := Lib.hid ⟨⟨by omega, by omega⟩, ⟨uq0, lq0⟩, by rw [HT.out]; rfl⟩
                          clear hzY
                          go_wp2_with fail
                          clear ne
                          go_loopw [16, 17, 18, 19] (fun sa si sb sj wr => ∃ (s t c : Nat) (x v : List Int), sa = str x ∧ si = .int .i64 (c : Int) ∧ sb = str v ∧ sj = .int .i64 ((s : Int) - 1) ∧ s + t = Y ∧ c + s = z ∧ U8 x ∧ U8 v ∧ x.length = 32 ∧ v.length = 32 ∧ Hid (upW pairD (S.drop t) (x, v) (p.drop c) = T) ∧ NewV w.heap.size 4 wr (.slice aL Y cL) (L.map Value.bool) ∧ Below w.heap.size w wr) (fun _ _ _ sj _ => (intOf sj + 1).toNat)
                          case atStart => exact ⟨Y, 0, 1, q0, q0, rfl, rfl, rfl, rfl, start.out.1.1, start.out.1.2, start.out.2.1.1, start.out.2.1.1, start.out.2.1.2, start.out.2.1.2, Lib.hid start.out.2.2, hv, hb⟩
                          case round =>
                            obtain ⟨s, t, c, x, v, rfl, rfl, rfl, rfl, hst, hcs, ux, uv, lx, lv, HT2, hvr, hbr⟩ := hrel
                            clear hv hb
                            cases s with
                            | zero =>
                              have en : T = (x, v) := by
                                rw [← HT2.out, List.drop_of_length_le (by rw [HS.out, List.length_reverse, ← HYY.out]; omega), upW_nil]
                              subst en
                              have se := str_eq ux uo
                              have se2 := str_eq uv ur
                              rw [show ((0 : Nat) : Int) - 1 = -1 from rfl]
                              by_cases hx : x = old
                              · have ex : decide (x = old) = true := decide_eq_true hx
                                obtain ⟨R, hR⟩ : ∃ R, R = decide (v = root) := ⟨_, rfl⟩
                                have F : Hid (decide (growP old (N : Int) root (M : Int) p) = R) := Lib.hid (by
                                  rw [EQ2.out, hR]
                                  exact decide_eq_decide.2 (by simp [hx]))
                                rw [ex] at se
                                rw [← hR] at se2
                                clear hx ex hR
                                go_wp2_with fail
                                go_ret
                                exact ⟨by rw [F.out]; rfl, hbr⟩
                              · have ex : decide (x = old) = false := decide_eq_false hx
                                have F : Hid (decide (growP old (N : Int) root (M : Int) p) = false) := Lib.hid (by
                                  rw [EQ2.out]
                                  exact decide_eq_false (by simp [hx]))
                                rw [ex] at se
                                clear hx ex
                                go_wp2_with fail
                                go_ret
                                exact ⟨by rw [F.out]; rfl, hbr⟩
                            | succ s =>
                              rw [show ((s + 1 : Nat) : Int) - 1 = (s : Int) by omega]
                              have hsL : s < L.length := by rw [← HYY.out]; omega
                              obtain ⟨gL, ea, _, hcl⟩ := hvr.cell s (by rw [List.length_map]; exact hsL)
                              subst ea
                              rw [List.getElem_map] at hcl
                              obtain ⟨bj, hbj⟩ : ∃ b, b = L[s] := ⟨_, rfl⟩
                              rw [← hbj] at hcl
                              have ed1 : Hid (S.drop t = bj :: S.drop (t + 1)) := Lib.hid (by
                                have e1 : t < S.length := by rw [HS.out, List.length_reverse, ← HYY.out]; omega
                                rw [List.drop_eq_getElem_cons e1]
                                congr 1
                                simp only [HS.out, List.getElem_reverse, hbj]
                                congr 1
                                have := HYY.out
                                omega)
                              obtain ⟨b, off, eA, hcc⟩ := (hp.below hbr).at_ (by rw [← HZ.out]; omega)
                              try subst eA
                              try cases eA
                              have ck2 := hcc c (by rw [← HZ.out]; omega)
                              obtain ⟨q, hq⟩ : ∃ q, q = p[c]'(by rw [← HZ.out]; omega) := ⟨_, rfl⟩
                              have hmem2 : q ∈ p := by rw [hq]; exact List.getElem_mem _
                              rw [← hq] at ck2
                              have uq := hp.u8 q hmem2
                              have lq := HALL.out q hmem2
                              have ed2 : Hid (p.drop c = q :: p.drop (c + 1)) := Lib.hid (by rw [hq]; exact List.drop_eq_getElem_cons (by rw [← HZ.out]; omega))
                              have cz : (c : Int) < (z : Int) := by omega
                              have sY : (s : Int) < (Y : Int) := by omega
                              have HT3 : Hid (upW pairD (S.drop (t + 1)) (stepW pairD (x, v) bj q) (p.drop (c + 1)) = T) := Lib.hid (by rw [← HT2.out, ed1.out, ed2.out]; rfl)
                              clear hcc hq hbj HT2 ed1 ed2 hsL
                              cases bj with
                              | true =>
                                have c1 := rPair_c v q wr uv uq (by omega) (ht.below hbr)
                                go_wp2_with fail
                                refine c1.mono ?_; rintro e_ w3 ⟨rfl, hb3⟩
                                have hv3 := hvr.keep hb3
                                have hB3 := hbr.trans (hb3.mono hbr.size)
                                clear c1 hb3 hvr hbr
                                go_wp2_with fail
                                go_roundw
                                case rel => exact ⟨s, t + 1, c + 1, x, pairD v q, rfl, by go_num, rfl, by go_num, by omega, by omega, ux, (shaD_dig _).2, lx, (shaD_dig _).1, HT3, hv3, hB3⟩
                                case measure => simp [intOf]
                              | false =>
                                have c1 := rPair_c q x wr uq ux (by omega) (ht.below hbr)
                                go_wp2_with fail
                                refine c1.mono ?_; rintro e_ w3 ⟨rfl, hb3⟩
                                have hv3 := hvr.keep hb3
                                have hB3 := hbr.trans (hb3.mono hbr.size)
                                have c2 := rPair_c q v w3 uq uv (by omega) (ht.below hB3)
                                have ck3 : w3.cell? ⟨b, off + c, none⟩ = some (str q) := by rw [World.cell?_of_block (w := wr) (hb3.block b (World.block_lt_of_cell? _ _ ck2))]; exact ck2
                                clear c1 hb3 hvr hbr ck2
                                go_wp2_with fail
                                refine c2.mono ?_; rintro e_ w4 ⟨rfl, hb4⟩
                                have hv4 := hv3.keep hb4
                                have hB4 := hB3.trans (hb4.mono hB3.size)
                                clear c2 hb4 hv3 hB3
                                go_wp2_with fail
                                go_roundw
                                case rel => exact ⟨s, t + 1, c + 1, pairD q x, pairD q v, rfl, by go_num, rfl, by go_num, by omega, by omega, (shaD_dig _).2, (shaD_dig _).2, (shaD_dig _).1, (shaD_dig _).1, HT3, hv4, hB4⟩
                                case measure => simp [intOf]
                        · have ne : ((z : Int) - 1 != (Y : Int)) = true := by simp; omega
                          go_wp2_with fail
                          go_ret
                          exact ⟨by rw [EQ.out, SH.out, if_neg hzY]; rfl, hb⟩
        · have g2 : ((root.length : Int) != 32) = true := by simp; omega
          go_enter Tryd.func25, Tryd.ntmps25
          go_wp2_with fail
          go_ret
          exact no (fun h => h2 h.1.2) rfl rfl
      · have g1 : ((old.length : Int) != 32) = true := by simp; omega
        go_enter Tryd.func25, Tryd.ntmps25
        go_wp2_with fail
        go_ret
        exact no (fun h => h1 h.1.1) rfl rfl
    · have g4 : decide (m < n) = true := decide_eq_true (by omega)
      have g4' : m < n := by omega
      go_enter Tryd.func25, Tryd.ntmps25
      go_wp2_with fail
      go_ret
      exact no (fun h => by have := h.2.2.2.1; omega) rfl rfl
  · have g3 : decide (n < 0) = true := decide_eq_true (by omega)
    have g3' : n < 0 := by omega
    go_enter Tryd.func25, Tryd.ntmps25
    go_wp2_with fail
    go_ret
    exact no (fun h => by have := h.2.2.1; omega) rfl rfl
end Go.Proofs.YtmbifokiebjmmaaDoor
