/- package log: in, Check by their contracts. -/
import Derived.Test.YtmbifokiebjmmaaDoorLogB
set_option linter.unusedVariables false
set_option linter.unusedSimpArgs false
namespace Go.Proofs.YtmbifokiebjmmaaDoor
open Go.RowKit Go.Sg
theorem zcD : (dval noDig).cells.size = 32 := by simp [dval, noDig, Value.cells]
/-- What 'in' tells: the lists as hashes; no: one of them is none. -/
def InPost (ps : List Part) (w : World) (e : Ending) (w' : World) : Prop :=
  ∃ v, e = .returned (.tuple #[v, .bool (decide (∀ p ∈ ps, p.xs.length = 32))]) ∧ ((∀ p ∈ ps, p.xs.length = 32) → NewD w.heap.size 64 w' v (ps.map (·.xs))) ∧ Below w.heap.size w w'

set_option maxHeartbeats 16000000 in
set_option maxRecDepth 20000 in
theorem in_c (A : Option Addr) (cap : Nat) (ps : List Part) (w : World) (hr : Rows_ w A ps) (hn : ps.length ≤ 4294967296) :
    Calls Tryd.prog 47 #[.slice A ps.length cap] w (InPost ps w) := by
  obtain ⟨n, hn'⟩ : ∃ n, n = ps.length := ⟨_, rfl⟩
  have HN := Lib.hid hn'
  rw [← hn'] at hn ⊢
  clear hn'
  go_enter Tryd.func47, Tryd.ntmps47
  go_wp2_with fail
  go_loopw [4, 9] (fun v t wr => ∃ k : Nat, k ≤ n ∧ t = .int .i64 (k : Int) ∧ (∀ p ∈ ps.take k, p.xs.length = 32) ∧ NewD w.heap.size 64 wr v ((ps.take k).map (·.xs)) ∧ Below w.heap.size w wr) (fun _ t _ => n - (intOf t).toNat)
  case atStart => exact ⟨0, by omega, rfl, by simp, .nil _ _ _, .refl _ _⟩
  case round =>
    obtain ⟨k, hk, rfl, hall, hv, hb⟩ := hrel
    obtain ⟨av, cv, rfl, _⟩ := hv.sl
    have lk : ((ps.take k).map (·.xs)).length = k := by rw [List.length_map, List.length_take, ← HN.out]; omega
    rw [lk] at hv ⊢
    have LK := Lib.hid lk
    have HA := Lib.hid hall
    clear lk hall
    by_cases hlt : k < n
    · have hd : decide ((k : Int) < (n : Int)) = true := decide_eq_true (by omega)
      have hki : (k : Int) < (n : Int) := by omega
      obtain ⟨b, off, rfl, hc⟩ := (hr.below hb).at_ (by have := HN.out; omega)
      have ck := hc k (by have := HN.out; omega)
      obtain ⟨p, hp⟩ : ∃ p, p = ps[k]'(by have := HN.out; omega) := ⟨_, rfl⟩
      have HP := Lib.hid hp
      have hmem : p ∈ ps := by rw [hp]; exact List.getElem_mem _
      have sp := (hr.below hb).sl p hmem
      have up := hr.u8 p hmem
      rw [← hp] at ck
      unfold Part.val at ck
      obtain ⟨z, hz⟩ : ∃ z, z = p.xs.length := ⟨_, rfl⟩
      rw [← hz] at ck
      have HZ := Lib.hid hz
      clear hp hz hc
      by_cases h32 : z = 32
      · subst h32
        have dp : Dig p.xs := ⟨HZ.out.symm, up⟩
        obtain ⟨bp, op, hap, hrg⟩ := sp.dig dp
        rw [hap] at ck
        have ar := fun W => arrD W (some ⟨bp, op, none⟩) 32 p.cap (by omega)
        clear hap sp
        go_wp2_with (first | (refine wpList_load_D rfl 64 _ rfl bp (op) rfl p.xs dp _ hrg Tryd.underlying64 rfl sizeD ?_) | (refine wpList_one_D rfl 66 64 _ rfl Tryd.underlying66 infoD p.xs dp rfl ?_))
        intro w1 hk1 hs1 hb1
        have HS1 := Lib.hid hs1
        have lv := fun g hg => (hv.lt g hg).1
        have hv1 := hv.keep hb1
        have hB1 := hb.trans (hb1.mono hb.size)
        obtain ⟨g1, hg1⟩ : ∃ g, g = wr.heap.size := ⟨_, rfl⟩
        rw [← hg1] at hk1 ⊢
        clear hs1 hg1 hv hb hb1
        go_wp2_with (at_builtin; refine wpList_append_newD _ rfl _ _ 66 rfl w.heap.size 64 (dval noDig) zcD Tryd.underlying66 infoD _ _ rfl hv1 g1 p.xs dp rfl hk1 (by rw [LK.out]; omega) hB1.size ?_)
        intro v' w2 hv2 hg2 ho2
        have hB2 := hB1.grown hg2 hB1.size lv
        have et : Hid (ps.take (k + 1) = ps.take k ++ [p]) := Lib.hid (by
          rw [List.take_add_one, List.getElem?_eq_getElem (by have := HN.out; omega), ← HP.out]
          rfl)
        clear hv1 hg2 ho2 hB1 hk1 ar
        go_wp2_with fail
        go_roundw
        case rel =>
          refine ⟨k + 1, by omega, by go_num, ?_, ?_, hB2⟩
          · rw [et.out]
            intro p' hp'
            rcases List.mem_append.1 hp' with h | h
            · exact HA.out p' h
            · simp at h; rw [h]; exact dp.1
          · rw [et.out, List.map_append, List.map_take]; exact hv2
        case measure => simp [intOf]; omega
      · have g : ((z : Int) != 32) = true := by simp; omega
        have e : Hid (decide (∀ p ∈ ps, p.xs.length = 32) = false) := Lib.hid (decide_eq_false fun h => h32 (by rw [HZ.out]; exact h p hmem))
        go_wp2_with fail
        go_ret2
        refine ⟨_, by rw [e.out]; rfl, fun h => absurd (h p hmem) (by rw [← HZ.out]; exact h32), hb⟩
    · obtain rfl : k = n := by omega
      have hd : decide ((k : Int) < (k : Int)) = false := by simp
      have et : ps.take k = ps := List.take_of_length_le (by rw [← HN.out]; omega)
      rw [et] at hv
      have hall := HA.out
      rw [et] at hall
      have e : Hid (decide (∀ p ∈ ps, p.xs.length = 32) = true) := Lib.hid (decide_eq_true hall)
      clear hall
      go_wp2_with fail
      go_ret2
      exact ⟨_, by rw [e.out]; rfl, fun _ => hv, hb⟩

end Go.Proofs.YtmbifokiebjmmaaDoor
namespace Go.Sg
open Go.RowKit
/-- Do they show it? -/
def checkP (root : List Int) (n i : Int) (leaf : List Int) (p : List (List Int)) : Prop :=
  (root.length = 32 ∧ leaf.length = 32) ∧ (∀ x ∈ p, x.length = 32) ∧ 0 ≤ i ∧ i < n ∧ foldH pairD 63 n.toNat i.toNat leaf p = some root
instance (root : List Int) (n i : Int) (leaf : List Int) (p : List (List Int)) : Decidable (checkP root n i leaf p) := by unfold checkP; infer_instance
end Go.Sg
namespace Go.Proofs.YtmbifokiebjmmaaDoor
open Go.RowKit Go.Sg
/-- A bool, and nothing that was there has turned. -/
def TellPost (b : Bool) (w : World) (e : Ending) (w' : World) : Prop := e = .returned (.bool b) ∧ Below w.heap.size w w'

set_option maxHeartbeats 16000000 in
set_option maxRecDepth 20000 in
theorem Check_c (a a' A : Option Addr) (cap cap' cap2 : Nat) (root leaf : List Int) (ps : List Part) (n i : Int) (w : World) (sr : Sl .u8 w a cap root) (ur : U8 root) (sl : Sl .u8 w a' cap' leaf) (ul : U8 leaf) (hr : Rows_ w A ps) (hn : ps.length ≤ 4294967296)
    (bn : n ≤ 9223372036854775807) (ht : ShaTabs w) :
    Calls Tryd.prog 20 #[.slice a root.length cap, .int .i64 n, .int .i64 i, .slice a' leaf.length cap', .slice A ps.length cap2] w (TellPost (decide (checkP root n i leaf (ps.map (·.xs)))) w) := by
  obtain ⟨r, hr'⟩ : ∃ r, r = root.length := ⟨_, rfl⟩
  obtain ⟨l, hl'⟩ : ∃ l, l = leaf.length := ⟨_, rfl⟩
  obtain ⟨m, hm'⟩ : ∃ m, m = ps.length := ⟨_, rfl⟩
  have HR := Lib.hid hr'
  have HL := Lib.hid hl'
  have HM := Lib.hid hm'
  have al := (Below.refl w.heap.size w).alloc (Nat.le_refl _) (.cells #[.slice a r cap, .slice a' l cap'] 25)
  have c1 := in_c (some ⟨w.heap.size, 0, none⟩) 2 [⟨a, cap, root⟩, ⟨a', cap', leaf⟩] (w.alloc (.cells #[.slice a r cap, .slice a' l cap'] 25)) (rows_new w 25 [⟨a, cap, root⟩, ⟨a', cap', leaf⟩] _ (by rw [hr', hl']; rfl) (by
    intro p hp
    simp only [List.mem_cons, List.not_mem_nil, or_false] at hp
    rcases hp with rfl | rfl
    · exact sr
    · exact sl) (by
    intro p hp
    simp only [List.mem_cons, List.not_mem_nil, or_false] at hp
    rcases hp with rfl | rfl
    · exact ur
    · exact ul)) (by simp)
  unfold InPost at c1
  have e1 : Hid ((∀ p ∈ [(⟨a, cap, root⟩ : Part), ⟨a', cap', leaf⟩], p.xs.length = 32) ↔ (root.length = 32 ∧ leaf.length = 32)) := Lib.hid (by simp)
  have c2 := fun W (k : Below w.heap.size w W) => in_c A cap2 ps W (hr.below k) hn
  unfold InPost at c2
  have e2 : Hid ((∀ p ∈ ps, p.xs.length = 32) ↔ (∀ x ∈ ps.map (·.xs), x.length = 32)) := Lib.hid (by simp)
  rw [← hr', ← hl', ← hm']
  rw [← hm'] at c2
  simp only [e1.out, List.map_cons, List.map_nil, List.length_cons, List.length_nil, Nat.zero_add, Nat.reduceAdd] at c1
  obtain ⟨B2, hB2'⟩ : ∃ b, b = decide (∀ p ∈ ps, p.xs.length = 32) := ⟨_, rfl⟩
  have HB2 := Lib.hid hB2'
  simp only [← hB2'] at c2
  clear hr' hl' hm' hr hn sr sl hB2'
  by_cases h1 : root.length = 32 ∧ leaf.length = 32
  · simp only [decide_eq_true h1] at c1
    cases B2 with
    | false =>
      have e : Hid (decide (checkP root n i leaf (ps.map (·.xs))) = false) := Lib.hid (decide_eq_false fun h => of_decide_eq_false HB2.out.symm (e2.out.2 h.2.1))
      go_enter Tryd.func20, Tryd.ntmps20
      go_wp2_with fail
      refine c1.mono ?_; rintro e_ w1 ⟨v, rfl, hv, hb⟩
      have hB := al.trans (hb.mono al.size)
      have c3 := c2 _ hB
      clear c1 c2
      go_wp2_with fail
      refine c3.mono ?_; rintro e_ w2 ⟨v2, rfl, hv2, hb2⟩
      have hB2 := hB.trans (hb2.mono hB.size)
      clear c3
      go_wp2_with fail
      go_ret
      exact ⟨by rw [e.out]; rfl, hB2⟩
    | true =>
      by_cases h3 : 0 ≤ i
      · by_cases h4 : i < n
        · have h2 := of_decide_eq_true HB2.out.symm
          obtain ⟨N, rfl⟩ : ∃ N : Nat, n = (N : Int) := ⟨n.toNat, by omega⟩
          obtain ⟨I, rfl⟩ : ∃ I : Nat, i = (I : Int) := ⟨i.toNat, by omega⟩
          have g3 : ¬ (I : Int) < 0 := by omega
          have g4 : ¬ (I : Int) ≥ (N : Int) := by omega
          have g5 : decide ((N : Int) ≤ (I : Int)) = false := decide_eq_false (by omega)
          have g7 : decide (N ≤ I) = false := decide_eq_false (by omega)
          have g8 : ¬ N ≤ I := by omega
          have g6 : decide ((I : Int) < 0) = false := decide_eq_false (by omega)
          go_enter Tryd.func20, Tryd.ntmps20
          go_wp2_with fail
          refine c1.mono ?_; rintro e_ w1 ⟨v, rfl, hv, hb⟩
          have hB := al.trans (hb.mono al.size)
          have c3 := c2 _ hB
          clear c1 c2
          go_wp2_with fail
          refine c3.mono ?_; rintro e_ w2 ⟨v2, rfl, hv2, hb2⟩
          have hB2 := hB.trans (hb2.mono hB.size)
          clear c3
          replace hv := (hv h1).keep hb2
          replace hv2 := hv2 h2
          obtain ⟨ae, ce, rfl, se⟩ := hv.sl
          obtain ⟨ap, cp, rfl, sp⟩ := hv2.sl
          have dr : Dig root := ⟨h1.1, ur⟩
          have dl : Dig leaf := ⟨h1.2, ul⟩
          obtain ⟨b, off, rfl, r1⟩ := se.range (i := 1) (by simp)
          obtain ⟨b', off', eb, r0⟩ := se.range (i := 0) (by simp)
          cases eb
          simp only [List.getElem_cons_succ, List.getElem_cons_zero, Nat.one_mul, Nat.zero_mul, Nat.add_zero] at r0 r1
          have cl := fold_c N N (Nat.le_refl _) 63 I leaf ap cp _ w2 (by omega) (by omega) (by omega) (by omega) dl sp (ht.below hB2)
          obtain ⟨Q, hQ⟩ : ∃ Q, Q = ps.map (·.xs) := ⟨_, rfl⟩
          rw [← hQ] at cl sp hv2 ⊢
          obtain ⟨z, hz⟩ : ∃ z, z = Q.length := ⟨_, rfl⟩
          rw [← hz] at cl ⊢
          have l2 : ([root, leaf] : List (List Int)).length = 2 := rfl
          rw [l2]
          have HQ := Lib.hid hQ
          clear hQ hz hv hv2 se sp l2 hb hb2 hB h2
          go_wp2_with (refine wpList_load_D rfl 64 _ rfl b (off + 32) rfl leaf dl _ r1 Tryd.underlying64 rfl sizeD ?_)
          refine cl.mono ?_; rintro e_ w3 ⟨x, ok, rfl, dx, er, hb3⟩
          have ER := Lib.hid er
          have r0' := World.rangeAt.keep r0 dr hb3
          have hB3 := hB2.trans (hb3.mono hB2.size)
          clear cl er r1 r0 hB2 hb3
          go_wp2_with (with_reducible refine wpList_alloc_rw rfl 64 rfl (noDig.map (Value.int .u8)) _ zeroD ?_)
          intro w4 hk4 hs_ hb4
          have HS_w4 := Lib.hid hs_
          clear hs_
          obtain ⟨g4', hg4'⟩ : ∃ g, g = w3.heap.size := ⟨_, rfl⟩
          have bl : b < w3.heap.size := World.block_lt_of_cell? _ _ (r0' 0 (.int .u8 (nth root 0)) (by rw [List.getElem?_map, List.getElem?_eq_getElem (by rw [dr.1]; omega), nth_get _ _ (by rw [dr.1]; omega)]; rfl))
          have ne4 : b ≠ g4' := by rw [hg4']; exact Nat.ne_of_lt bl
          have wg : w.heap.size ≤ g4' := by rw [hg4']; exact hB3.size
          have r04 := World.rangeAt.keep r0' dr hb4
          have hB4 := hB3.trans (hb4.mono hB3.size)
          rw [← hg4'] at hk4 ⊢
          clear hg4' bl r0' hB3 hb4
          go_wp2_with (refine wpList_store_V rfl 64 _ _ rfl g4' 64 noDig x rfl rfl hk4 dig_no dx sizeD ?_)
          intro w5 hk5 hg5 hs5
          have r05 := World.rangeAt.grown r04 dr hg5 (fun e => ne4 (Option.some.inj e))
          have hB5 := hB4.grown hg5 hB4.size (by intro g hg; cases hg; exact wg)
          clear r04 hB4 hk4 hg5 hs5
          go_wp2_with fail
          have fin : Hid (decide (checkP root N I leaf (ps.map (·.xs))) = (ok && decide (x = root))) := Lib.hid (by
            rw [show ps.map (·.xs) = Q from HQ.out.symm]
            have e : checkP root N I leaf Q ↔ foldH pairD 63 N I leaf Q = some root := by
              unfold checkP
              rw [Int.toNat_natCast, Int.toNat_natCast]
              refine ⟨fun h => h.2.2.2.2, fun h => ⟨h1, ?_, by omega, by omega, h⟩⟩
              rw [HQ.out]
              exact e2.out.1 (of_decide_eq_true HB2.out.symm)
            have e' : decide (checkP root N I leaf Q) = decide (foldH pairD 63 N I leaf Q = some root) := decide_eq_decide.2 e
            rw [e']
            simp only [ER.out]
            cases ok <;> simp)
          refine wp_region_still_lit (by kernel_rfl) (by kernel_rfl) ?_
          change wpStill _ _ (World.drew _) _ _ _
          cases ok with
          | false =>
            repeat still_step
            refine wpStill_nil ?_
            go_wp2_with fail
            go_ret
            exact ⟨by rw [fin.out]; rfl, below_drewN hB5 1⟩
          | true =>
            still_step
            still_step
            (refine wpStill_load_V (by rfl) 64 _ rfl g4' 64 x rfl hk5 dx _ Tryd.underlying64 rfl sizeD ?_)
            still_step
            still_step
            (refine wpStill_load_D (by rfl) 64 _ rfl b (off) rfl root dr _ r05 Tryd.underlying64 rfl sizeD ?_)
            (refine wpStill_eq_D (by rfl) 64 _ _ _ rfl x root rfl rfl (decide (x = root)) (eqD _ _ _ dx dr) grdD ?_)
            repeat still_step
            refine wpStill_nil ?_
            go_wp2_with fail
            go_ret
            exact ⟨by rw [fin.out]; rfl, below_drewN hB5 1⟩
        · have g4 : decide (n ≤ i) = true := decide_eq_true (by omega)
          have g3 : decide (i < 0) = false := decide_eq_false (by omega)
          have g5 : n ≤ i := by omega
          have e : Hid (decide (checkP root n i leaf (ps.map (·.xs))) = false) := Lib.hid (decide_eq_false fun h => h4 h.2.2.2.1)
          go_enter Tryd.func20, Tryd.ntmps20
          go_wp2_with fail
          refine c1.mono ?_; rintro e_ w1 ⟨v, rfl, hv, hb⟩
          have hB := al.trans (hb.mono al.size)
          have c3 := c2 _ hB
          clear c1 c2
          go_wp2_with fail
          refine c3.mono ?_; rintro e_ w2 ⟨v2, rfl, hv2, hb2⟩
          have hB2 := hB.trans (hb2.mono hB.size)
          clear c3
          go_wp2_with fail
          go_ret
          exact ⟨by rw [e.out]; rfl, hB2⟩
      · have g3 : decide (i < 0) = true := decide_eq_true (by omega)
        have g5 : i < 0 := by omega
        have e : Hid (decide (checkP root n i leaf (ps.map (·.xs))) = false) := Lib.hid (decide_eq_false fun h => h3 h.2.2.1)
        go_enter Tryd.func20, Tryd.ntmps20
        go_wp2_with fail
        refine c1.mono ?_; rintro e_ w1 ⟨v, rfl, hv, hb⟩
        have hB := al.trans (hb.mono al.size)
        have c3 := c2 _ hB
        clear c1 c2
        go_wp2_with fail
        refine c3.mono ?_; rintro e_ w2 ⟨v2, rfl, hv2, hb2⟩
        have hB2 := hB.trans (hb2.mono hB.size)
        clear c3
        go_wp2_with fail
        go_ret
        exact ⟨by rw [e.out]; rfl, hB2⟩
  · simp only [decide_eq_false h1] at c1
    have e : Hid (decide (checkP root n i leaf (ps.map (·.xs))) = false) := Lib.hid (decide_eq_false fun h => h1 h.1)
    go_enter Tryd.func20, Tryd.ntmps20
    go_wp2_with fail
    refine c1.mono ?_; rintro e_ w1 ⟨v, rfl, hv, hb⟩
    have hB := al.trans (hb.mono al.size)
    have c3 := c2 _ hB
    clear c1 c2
    go_wp2_with fail
    refine c3.mono ?_; rintro e_ w2 ⟨v2, rfl, hv2, hb2⟩
    have hB2 := hB.trans (hb2.mono hB.size)
    clear c3
    go_wp2_with fail
    go_ret
    exact ⟨by rw [e.out]; rfl, hB2⟩
end Go.Proofs.YtmbifokiebjmmaaDoor
