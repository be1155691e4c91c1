import Derived.Test.YtmbifokiebjmmaaDoorZ18
import Derived.Test.YtmbifokiebjmmaaDoorZ2
import Derived.Test.YtmbifokiebjmmaaDoorZ11
import Derived.Test.YtmbifokiebjmmaaDoorZ14
/- package log: out, growth, Root, Proof, Growth by their contracts. (Printed by gen_logq.py.) -/
set_option linter.unusedVariables false
set_option linter.unusedSimpArgs false
namespace Go.Sg
def rootB (ds : List (List Int)) : List Int := rootH pairD (shaD []) 63 ds
def pathB (ds : List (List Int)) (i : Nat) : List (List Int) := pathH pairD (shaD []) 63 ds i
def growB (ds : List (List Int)) (m : Nat) : List (List Int) := if m = 0 then [] else partH pairD (shaD []) 63 ds m true
theorem growB_le (ds : List (List Int)) (m : Nat) : (growB ds m).length ≤ 64 := by
  unfold growB
  split
  · simp
  · exact partH_le _ _ _ _
theorem pathB_le (ds : List (List Int)) (i : Nat) : (pathB ds i).length ≤ 63 := pathH_le _ _ _
end Go.Sg
namespace Go.Proofs.YtmbifokiebjmmaaDoor
open Go.RowKit Go.Sg
theorem infoL8 : (Tryd.prog.info? 25).map (fun i => (i.zero, i.size, i.bytes)) = some (some (.slice none 0 0), 1, 24) := by kernel_rfl
/-- Lists of bytes of the call's own. -/
def OwnLists (ds : List (List Int)) (B : Nat) (w : World) (v : Value) : Prop := ∃ V A, Lists B .u8 5 25 w v ds.length V A ∧ (∀ j, j < ds.length → A j = ds.getD j [])
def OutPost (ds : List (List Int)) (w : World) (e : Ending) (w' : World) : Prop := ∃ v, e = .returned v ∧ OwnLists ds w.heap.size w' v ∧ Below w.heap.size w w'
/-- Lists, or the code. -/
def OutsPost (r : Option (List (List Int))) (w : World) (e : Ending) (w' : World) : Prop := ∃ v, e = .returned (.tuple #[v, .int .i64 (if r = none then 250 else 0)]) ∧ OwnLists (r.getD []) w.heap.size w' v ∧ Below w.heap.size w w'
theorem OwnLists.keep {ds : List (List Int)} {B : Nat} {w w' : World} {v : Value} (h : OwnLists ds B w v) (hb : Below w.heap.size w w') : OwnLists ds B w' v := by
  obtain ⟨V, A, hl, ha⟩ := h
  exact ⟨V, A, hl.keep hb, ha⟩
theorem Lists.mono' {B B' n : Nat} {k : IntKind} {E T : TypeId} {w : World} {V : Nat → Value} {A : Nat → List Int} {l : Value} (h : Lists B k E T w l n V A) (hB : B' ≤ B) : Lists B' k E T w l n V A := ⟨h.row.mono hB, h.fam.mono hB⟩
theorem OwnLists.mono {ds : List (List Int)} {B B' : Nat} {w : World} {v : Value} (h : OwnLists ds B w v) (hB : B' ≤ B) : OwnLists ds B' w v := by
  obtain ⟨V, A, hl, ha⟩ := h
  exact ⟨V, A, Lists.mono' hl hB, ha⟩
theorem OwnLists.nil (B : Nat) (w : World) : OwnLists [] B w (.slice none 0 0) := ⟨fun _ => .slice none 0 0, fun _ => [], ⟨.nil _ _ _, .zero _ _ _ _ _ _⟩, fun j h => by simp at h⟩

set_option maxHeartbeats 16000000 in
set_option maxRecDepth 20000 in
theorem out_c (a : Option Addr) (cap : Nat) (ds : List (List Int)) (w : World) (sp : SlD w a cap ds) (hn : ds.length ≤ 4294967296) :
    Calls Tryd.prog 56 #[.slice a ds.length cap] w (OutPost ds w) := by
  obtain ⟨n, hn'⟩ : ∃ n, n = ds.length := ⟨_, rfl⟩
  have HN := Lib.hid hn'
  rw [← hn'] at hn ⊢
  clear hn'
  go_enter Tryd.func56, Tryd.ntmps56
  go_wp2_with fail
  go_loopw [3, 8] (fun v t wr => ∃ (k : Nat) (V : Nat → Value) (A : Nat → List Int), k ≤ n ∧ t = .int .i64 (k : Int) ∧ Lists w.heap.size .u8 5 25 wr v k V A ∧ Hid (∀ j, j < k → A j = ds.getD j []) ∧ Below w.heap.size w wr) (fun _ t _ => n - (intOf t).toNat)
  case atStart => exact ⟨0, fun _ => .slice none 0 0, fun _ => [], by omega, rfl, ⟨.nil _ _ _, .zero _ _ _ _ _ _⟩, Lib.hid (fun j h => by omega), .refl _ _⟩
  case round =>
    obtain ⟨k, V, A, hk, rfl, hL, hA, hb⟩ := hrel
    by_cases hlt : k < n
    · have hd : decide ((k : Int) < (n : Int)) = true := decide_eq_true (by omega)
      have hki : (k : Int) < (n : Int) := by omega
      obtain ⟨b, off, rfl, hr⟩ := (sp.below hb).range (i := k) (by have := HN.out; omega)
      obtain ⟨z, hz⟩ : ∃ z, z = ds[k]'(by have := HN.out; omega) := ⟨_, rfl⟩
      have HZ := Lib.hid hz
      have dz : Dig z := by rw [hz]; exact sp.dig _ (List.getElem_mem _)
      rw [← hz] at hr
      clear hz
      have V0 := Vars.start 64 wr
      go_wp2_with (first | (refine wpList_load_D rfl 64 _ rfl b (off + k * 32) rfl z dz _ hr Tryd.underlying64 rfl sizeD ?_) | (with_reducible refine wpList_alloc_rw rfl 64 rfl (noDig.map (Value.int .u8)) _ zeroD ?_))
      intro w1 hk_ hs_ hb_
      have V1 := Vars.add V0 hk_ hb_ dig_no
      obtain ⟨g1, hg_⟩ : ∃ g, g = wr.heap.size := ⟨_, rfl⟩
      rw [← hg_] at V1 ⊢
      simp only [List.nil_append, List.cons_append] at V1
      clear hk_ hs_ hb_ hg_ V0 hr
      go_wp2_with (refine wpList_store_V rfl 64 _ _ rfl g1 64 noDig z rfl rfl (Vars.at_ V1 (i := 0) rfl) (Vars.dig V1 (i := 0) rfl) dz sizeD ?_)
      intro w2 hk_ hg_ hs_
      have V2 := Vars.set V1 0 (g := g1) rfl hk_ hg_ dz
      simp only [List.set_cons_zero, List.set_cons_succ] at V2
      clear hk_ hg_ hs_ V1
      go_wp2_with (refine wpList_load_V rfl 64 _ rfl g1 64 z rfl (Vars.at_ V2 (i := 0) rfl) (Vars.dig V2 (i := 0) rfl) _ Tryd.underlying64 rfl sizeD ?_)
      refine (bytes_c z w2 dz).mono ?_; rintro e_ w3 ⟨v', rfl, hn3, hb3⟩
      have lz := dz.1
      have hB3 := V2.below.trans (hb3.mono V2.below.size)
      have hfr : ∀ g, v'.ownBlock = some g → wr.heap.size ≤ g := fun g hg => Nat.le_trans V2.below.size (hn3.lt g hg).1
      obtain ⟨V', A', f1, r1, a1, e1, s1, t1⟩ := hL.fam.push' (hn3.mono (Nat.le_trans hb.size V2.below.size)) hB3 hfr
      obtain ⟨av, cv, rfl, _⟩ := hn3.at_own
      rw [lz] at r1 t1 ⊢
      have al := (Below.refl w3.heap.size w3).alloc (Nat.le_refl _) (.cells #[.slice av 32 cv] 25)
      have hbk := hb.trans (hB3.mono hb.size)
      have hbk2 := hbk.trans (al.mono hbk.size)
      have row3 := (hL.row.keep hB3).keep al
      have f3 := f1.keep al
      have R1 := Lib.hid r1
      have A1 := Lib.hid (show ∀ j, j < k + 1 → A' j = ds.getD j [] from fun j hj => by
        by_cases c : j < k
        · rw [a1 j c]; exact hA.out j c
        · obtain rfl : j = k := by omega
          rw [e1, HZ.out, List.getD_eq_getElem?_getD, List.getElem?_eq_getElem (by have := HN.out; omega)]; rfl)
      have LK : Hid (((List.range k).map V).length = k) := Lib.hid (by simp)
      have lv := fun g hg => (row3.lt g hg).1
      clear r1 a1 e1 s1 t1 hn3 hb3 hB3 hb hfr V2 f1 hL hA lz hbk al
      go_wp2_with (at_builtin; refine wpList_append_newV _ rfl _ _ 23 rfl w.heap.size 25 24 Tryd.underlying23 infoL8 _ _ rfl row3 _ 1 (.slice av 32 cv) ⟨_, _, _, rfl⟩ rfl (cell_new1 _ _ _ _) (by rw [LK.out]; omega) (by rw [LK.out]; omega) hbk2.size ?_)
      intro v4 w4 hv4 hg4 ho4
      have hL4 := Lists.grow row3 f3 (by decide) hv4 hg4 R1.out
      have hB4 := hbk2.grown hg4 hbk2.size lv
      clear row3 f3 hv4 hg4 ho4 hbk2 R1 lv
      go_wp2_with fail
      go_roundw
      case rel => exact ⟨k + 1, V', A', by omega, by go_num, hL4, A1, hB4⟩
      case measure => simp [intOf]; omega
    · obtain rfl : k = n := by omega
      have hd : decide ((k : Int) < (k : Int)) = false := decide_eq_false (by omega)
      go_wp2_with fail
      go_ret
      exact ⟨_, rfl, ⟨V, A, by rw [← HN.out]; exact hL, fun j hj => hA.out j (by rw [HN.out]; exact hj)⟩, hb⟩

set_option maxHeartbeats 4000000 in
set_option maxRecDepth 20000 in
theorem growth_c (ds : List (List Int)) (m : Nat) (a : Option Addr) (cap : Nat) (w : World) (hm : m ≤ ds.length) (sp : SlD w a cap ds) (ht : ShaTabs w) :
    Calls Tryd.prog 58 #[.slice a ds.length cap, .int .i64 (m : Int)] w (DigsPost (growB ds m) w) := by
  by_cases h0 : m = 0
  · subst h0
    have e : growB ds 0 = [] := rfl
    rw [e, show ((0 : Nat) : Int) = 0 from rfl]
    clear e
    go_enter Tryd.func58, Tryd.ntmps58
    go_wp2_with fail
    go_ret
    exact ⟨_, rfl, .nil _ _ _, .refl _ _⟩
  · have c1 := part_c ds.length ds (Nat.le_refl _) 63 m true a cap w (by have := sp.le; have := sp.max; omega) (by omega) (by omega) hm sp ht
    have e : partH pairD (shaD []) 63 ds m true = growB ds m := by unfold growB; rw [if_neg h0]
    rw [e] at c1
    unfold DigsPost at c1
    obtain ⟨x, hx⟩ : ∃ x, x = growB ds m := ⟨_, rfl⟩
    rw [← hx] at c1 ⊢
    obtain ⟨n, hn⟩ : ∃ n, n = ds.length := ⟨_, rfl⟩
    rw [← hn] at c1 ⊢
    have hz : ((m : Int) == 0) = false := by simp; omega
    clear e hx hn
    go_enter Tryd.func58, Tryd.ntmps58
    go_wp2_with fail
    refine c1.mono ?_; rintro e_ w2 ⟨v, rfl, hv, hb⟩
    clear c1
    go_wp2_with fail
    go_ret
    exact ⟨_, rfl, hv, hb⟩

def leavesOf (ps : List Part) : List (List Int) := ps.map fun p => leafD p.xs
set_option maxHeartbeats 4000000 in
set_option maxRecDepth 20000 in
theorem Root_c (A : Option Addr) (cap : Nat) (ps : List Part) (w : World) (hr : Rows_ w A ps) (hn : ps.length ≤ 4294967296) (hl : ∀ p ∈ ps, p.xs.length ≤ 140737488355328) (ht : ShaTabs w) :
    Calls Tryd.prog 12 #[.slice A ps.length cap] w (BytesPost (rootB (leavesOf ps)) w) := by
  have c1 := leaves_c A cap ps w hr hn hl ht
  have l1 : (leavesOf ps).length = ps.length := by unfold leavesOf; rw [List.length_map]
  have c2 := fun a c W (sd : SlD W a c (leavesOf ps)) (hb : Below w.heap.size w W) => root_c (leavesOf ps).length (leavesOf ps) (Nat.le_refl _) 63 a c W (by omega) sd (ht.below hb)
  have dr : (∀ d ∈ leavesOf ps, Dig d) → Dig (rootB (leavesOf ps)) := fun h => root_dig _ _ _ h
  have dl : ∀ d ∈ leavesOf ps, Dig d := fun d hd => by
    obtain ⟨p, _, rfl⟩ := List.mem_map.1 hd
    exact shaD_dig _
  unfold DigsPost at c1
  rw [show (ps.map fun p => leafD p.xs) = leavesOf ps from rfl] at c1
  obtain ⟨ds, hds⟩ : ∃ x, x = leavesOf ps := ⟨_, rfl⟩
  rw [← hds] at c1 c2 dr dl l1 ⊢
  rw [show rootH pairD (shaD []) 63 ds = rootB ds from rfl] at c2
  obtain ⟨r, hr'⟩ : ∃ x, x = rootB ds := ⟨_, rfl⟩
  rw [← hr'] at c2 dr ⊢
  obtain ⟨n, hn'⟩ : ∃ n, n = ps.length := ⟨_, rfl⟩
  rw [← hn'] at c1 l1 ⊢
  replace dr := dr dl
  rw [l1] at c2
  have L1 := Lib.hid l1
  clear hds hr' hn' l1 dl
  go_enter Tryd.func12, Tryd.ntmps12
  go_wp2_with fail
  refine c1.mono ?_; rintro e_ w2 ⟨v, rfl, hv, hb2⟩
  obtain ⟨a, c, rfl, sd⟩ := hv.sl
  have c3 := c2 a c w2 sd hb2
  rw [L1.out]
  clear c1 c2 hv sd
  go_wp2_with fail
  refine c3.mono ?_; rintro e_ w3 ⟨rfl, hb3⟩
  have c4 := bytes_c r w3 dr
  have hB3 := hb2.trans (hb3.mono hb2.size)
  clear c3 hb2 hb3
  go_wp2_with fail
  refine c4.mono ?_; rintro e_ w4 ⟨v, rfl, hn4, hb4⟩
  go_wp2_with fail
  go_ret
  exact ⟨v, rfl, hn4.mono hB3.size, hB3.trans (hb4.mono hB3.size)⟩
set_option maxHeartbeats 4000000 in
set_option maxRecDepth 20000 in
theorem Proof_c (A : Option Addr) (cap : Nat) (ps : List Part) (i : Int) (w : World) (hr : Rows_ w A ps) (hn : ps.length ≤ 4294967296) (hl : ∀ p ∈ ps, p.xs.length ≤ 140737488355328) (ht : ShaTabs w) :
    Calls Tryd.prog 33 #[.slice A ps.length cap, .int .i64 i] w (OutsPost (if 0 ≤ i ∧ i < (ps.length : Int) then some (pathB (leavesOf ps) i.toNat) else none) w) := by
  by_cases hi0 : 0 ≤ i
  · have g0 : decide (i < 0) = false := decide_eq_false (by omega)
    have g0' : ¬ i < 0 := by omega
    by_cases hi1 : i < (ps.length : Int)
    · rw [if_pos ⟨hi0, hi1⟩]
      obtain ⟨j, rfl⟩ : ∃ j : Nat, i = (j : Int) := ⟨i.toNat, by omega⟩
      rw [Int.toNat_natCast]
      have c1 := leaves_c A cap ps w hr hn hl ht
      have l1 : (leavesOf ps).length = ps.length := by unfold leavesOf; rw [List.length_map]
      have c2 := fun a c W (sd : SlD W a c (leavesOf ps)) (hb : Below w.heap.size w W) => path_c (leavesOf ps).length (leavesOf ps) (Nat.le_refl _) 63 j a c W (by omega) (by omega) (by omega) sd (ht.below hb)
      unfold DigsPost at c1 c2
      rw [show (ps.map fun p => leafD p.xs) = leavesOf ps from rfl] at c1
      have hle := pathB_le (leavesOf ps) j
      obtain ⟨ds, hds⟩ : ∃ x, x = leavesOf ps := ⟨_, rfl⟩
      rw [← hds] at c1 c2 l1 hle ⊢
      rw [show pathH pairD (shaD []) 63 ds j = pathB ds j from rfl] at c2
      obtain ⟨r, hr'⟩ : ∃ x, x = pathB ds j := ⟨_, rfl⟩
      rw [← hr'] at c2 hle ⊢
      obtain ⟨n, hn'⟩ : ∃ n, n = ps.length := ⟨_, rfl⟩
      rw [← hn'] at c1 l1 hi1 ⊢
      rw [l1] at c2
      have L1 := Lib.hid l1
      have g1 : decide (n ≤ j) = false := decide_eq_false (by omega)
      have g1' : ¬ (n ≤ j) := by omega
      have g2 : decide ((n : Int) ≤ (j : Int)) = false := decide_eq_false (by omega)
      have g3 : ¬ ((n : Int) ≤ (j : Int)) := by omega
      clear hds hr' hn' l1
      go_enter Tryd.func33, Tryd.ntmps33
      go_wp2_with fail
      refine c1.mono ?_; rintro e_ w2 ⟨v, rfl, hv, hb2⟩
      obtain ⟨a, c, rfl, sd⟩ := hv.sl
      have c3 := c2 a c w2 sd hb2
      rw [L1.out]
      clear c1 c2 hv sd
      go_wp2_with fail
      refine c3.mono ?_; rintro e_ w3 ⟨v, rfl, hv3, hb3⟩
      obtain ⟨a3, c3', rfl, sd3⟩ := hv3.sl
      have c4 := out_c a3 c3' r w3 sd3 (by omega)
      unfold OutPost at c4
      have hB3 := hb2.trans (hb3.mono hb2.size)
      clear c3 hb2 hb3 hv3 sd3
      go_wp2_with fail
      refine c4.mono ?_; rintro e_ w4 ⟨v, rfl, hn4, hb4⟩
      go_wp2_with fail
      go_ret2
      exact ⟨v, rfl, hn4.mono hB3.size, hB3.trans (hb4.mono hB3.size)⟩
    · rw [if_neg (fun h => hi1 h.2)]
      obtain ⟨n, hn'⟩ : ∃ n, n = ps.length := ⟨_, rfl⟩
      rw [← hn'] at hi1 ⊢
      obtain ⟨j, rfl⟩ : ∃ j : Nat, i = (j : Int) := ⟨i.toNat, by omega⟩
      have g1 : decide (n ≤ j) = true := decide_eq_true (by omega)
      have g1' : (n ≤ j) := by omega
      have g2 : decide ((n : Int) ≤ (j : Int)) = true := decide_eq_true (by omega)
      have g3 : ((n : Int) ≤ (j : Int)) := by omega
      clear hn'
      go_enter Tryd.func33, Tryd.ntmps33
      go_wp2_with fail
      go_ret2
      exact ⟨_, rfl, .nil _ _, .refl _ _⟩
  · rw [if_neg (fun h => hi0 h.1)]
    have g0 : decide (i < 0) = true := decide_eq_true (by omega)
    have g0' : i < 0 := by omega
    obtain ⟨n, hn'⟩ : ∃ n, n = ps.length := ⟨_, rfl⟩
    rw [← hn']
    clear hn'
    go_enter Tryd.func33, Tryd.ntmps33
    go_wp2_with fail
    go_ret2
    exact ⟨_, rfl, .nil _ _, .refl _ _⟩

set_option maxHeartbeats 4000000 in
set_option maxRecDepth 20000 in
theorem Growth_c (A : Option Addr) (cap : Nat) (ps : List Part) (i : Int) (w : World) (hr : Rows_ w A ps) (hn : ps.length ≤ 4294967296) (hl : ∀ p ∈ ps, p.xs.length ≤ 140737488355328) (ht : ShaTabs w) :
    Calls Tryd.prog 37 #[.slice A ps.length cap, .int .i64 i] w (OutsPost (if 0 ≤ i ∧ i ≤ (ps.length : Int) then some (growB (leavesOf ps) i.toNat) else none) w) := by
  by_cases hi0 : 0 ≤ i
  · have g0 : decide (i < 0) = false := decide_eq_false (by omega)
    have g0' : ¬ i < 0 := by omega
    by_cases hi1 : i ≤ (ps.length : Int)
    · rw [if_pos ⟨hi0, hi1⟩]
      obtain ⟨j, rfl⟩ : ∃ j : Nat, i = (j : Int) := ⟨i.toNat, by omega⟩
      rw [Int.toNat_natCast]
      have c1 := leaves_c A cap ps w hr hn hl ht
      have l1 : (leavesOf ps).length = ps.length := by unfold leavesOf; rw [List.length_map]
      have c2 := fun a c W (sd : SlD W a c (leavesOf ps)) (hb : Below w.heap.size w W) => growth_c (leavesOf ps) j a c W (by omega) sd (ht.below hb)
      unfold DigsPost at c1 c2
      rw [show (ps.map fun p => leafD p.xs) = leavesOf ps from rfl] at c1
      have hle := growB_le (leavesOf ps) j
      obtain ⟨ds, hds⟩ : ∃ x, x = leavesOf ps := ⟨_, rfl⟩
      rw [← hds] at c1 c2 l1 hle ⊢
      skip
      obtain ⟨r, hr'⟩ : ∃ x, x = growB ds j := ⟨_, rfl⟩
      rw [← hr'] at c2 hle ⊢
      obtain ⟨n, hn'⟩ : ∃ n, n = ps.length := ⟨_, rfl⟩
      rw [← hn'] at c1 l1 hi1 ⊢
      rw [l1] at c2
      have L1 := Lib.hid l1
      have g1 : decide (n < j) = false := decide_eq_false (by omega)
      have g1' : ¬ (n < j) := by omega
      have g2 : decide ((n : Int) < (j : Int)) = false := decide_eq_false (by omega)
      have g3 : ¬ ((n : Int) < (j : Int)) := by omega
      clear hds hr' hn' l1
      go_enter Tryd.func37, Tryd.ntmps37
      go_wp2_with fail
      refine c1.mono ?_; rintro e_ w2 ⟨v, rfl, hv, hb2⟩
      obtain ⟨a, c, rfl, sd⟩ := hv.sl
      have c3 := c2 a c w2 sd hb2
      rw [L1.out]
      clear c1 c2 hv sd
      go_wp2_with fail
      refine c3.mono ?_; rintro e_ w3 ⟨v, rfl, hv3, hb3⟩
      obtain ⟨a3, c3', rfl, sd3⟩ := hv3.sl
      have c4 := out_c a3 c3' r w3 sd3 (by omega)
      unfold OutPost at c4
      have hB3 := hb2.trans (hb3.mono hb2.size)
      clear c3 hb2 hb3 hv3 sd3
      go_wp2_with fail
      refine c4.mono ?_; rintro e_ w4 ⟨v, rfl, hn4, hb4⟩
      go_wp2_with fail
      go_ret2
      exact ⟨v, rfl, hn4.mono hB3.size, hB3.trans (hb4.mono hB3.size)⟩
    · rw [if_neg (fun h => hi1 h.2)]
      obtain ⟨n, hn'⟩ : ∃ n, n = ps.length := ⟨_, rfl⟩
      rw [← hn'] at hi1 ⊢
      obtain ⟨j, rfl⟩ : ∃ j : Nat, i = (j : Int) := ⟨i.toNat, by omega⟩
      have g1 : decide (n < j) = true := decide_eq_true (by omega)
      have g1' : (n < j) := by omega
      have g2 : decide ((n : Int) < (j : Int)) = true := decide_eq_true (by omega)
      have g3 : ((n : Int) < (j : Int)) := by omega
      clear hn'
      go_enter Tryd.func37, Tryd.ntmps37
      go_wp2_with fail
      go_ret2
      exact ⟨_, rfl, .nil _ _, .refl _ _⟩
  · rw [if_neg (fun h => hi0 h.1)]
    have g0 : decide (i < 0) = true := decide_eq_true (by omega)
    have g0' : i < 0 := by omega
    obtain ⟨n, hn'⟩ : ∃ n, n = ps.length := ⟨_, rfl⟩
    rw [← hn']
    clear hn'
    go_enter Tryd.func37, Tryd.ntmps37
    go_wp2_with fail
    go_ret2
    exact ⟨_, rfl, .nil _ _, .refl _ _⟩
end Go.Proofs.YtmbifokiebjmmaaDoor
/- package log: both by its contract. -/
set_option linter.unusedVariables false
set_option linter.unusedSimpArgs false
namespace Go.Proofs.YtmbifokiebjmmaaDoor
open Go.RowKit Go.Sg
def BothPost (r : Option (List Int × List Int)) (w : World) (e : Ending) (w' : World) : Prop := ∃ x y ok, e = .returned (.tuple #[dval x, dval y, .bool ok]) ∧ Dig x ∧ Dig y ∧ r = (if ok = true then some (x, y) else none) ∧ Below w.heap.size w w'
theorem BothPost.of {r : Option (List Int × List Int)} {w w' : World} {l : List (Nat × List Int)} {x y : List Int} {ok : Bool} (V : Vars 64 w w' l) (dx : Dig x) (dy : Dig y) (h : r = (if ok = true then some (x, y) else none)) : BothPost r w (.returned (.tuple #[dval x, dval y, .bool ok])) w' :=
  ⟨x, y, ok, rfl, dx, dy, h, V.below⟩
set_option maxHeartbeats 16000000 in
set_option maxRecDepth 20000 in
theorem both_c (N : Nat) : ∀ (n : Nat), n ≤ N → ∀ (h m : Nat) (wh : Bool) (d : List Int) (a : Option Addr) (cap : Nat) (p : List (List Int)) (w : World), 1 ≤ m → m ≤ n → n ≤ 2 ^ h → n ≤ 9223372036854775807 → Dig d → SlD w a cap p → ShaTabs w →
    Calls Tryd.prog 52 #[.int .i64 (m : Int), .int .i64 (n : Int), .bool wh, dval d, .slice a p.length cap] w (BothPost (bothH pairD h n m wh d p) w) := by
  induction N with
  | zero => intro n hN h m wh d a cap p w h1 hmn; omega
  | succ N IH =>
    intro n hN h m wh d a cap p w h1 hmn hh hm dd sp ht
    obtain ⟨L, hL⟩ : ∃ L, L = p.length := ⟨_, rfl⟩
    have HL := Lib.hid hL
    rw [← hL]
    clear hL
    go_enter Tryd.func52, Tryd.ntmps52
    have V0 := Vars.start 64 w
    go_wp2_with (refine wpList_box_D rfl 64 _ rfl d rfl ?_)
    intro w1 hk_ hs_ hb_
    have V1 := Vars.add V0 hk_ hb_ dd
    obtain ⟨g1, hg_⟩ : ∃ g, g = w.heap.size := ⟨_, rfl⟩
    rw [← hg_] at V1 ⊢
    simp only [List.nil_append, List.cons_append] at V1
    clear hk_ hs_ hb_ hg_
    go_wp2_with (with_reducible refine wpList_alloc_rw rfl 64 rfl (noDig.map (Value.int .u8)) _ zeroD ?_)
    intro w2 hk_ hs_ hb_
    have V2 := Vars.add V1 hk_ hb_ dig_no
    obtain ⟨g2, hg_⟩ : ∃ g, g = w1.heap.size := ⟨_, rfl⟩
    rw [← hg_] at V2 ⊢
    simp only [List.nil_append, List.cons_append] at V2
    clear hk_ hs_ hb_ hg_
    go_wp2_with (with_reducible refine wpList_alloc_rw rfl 64 rfl (noDig.map (Value.int .u8)) _ zeroD ?_)
    intro w3 hk_ hs_ hb_
    have V3 := Vars.add V2 hk_ hb_ dig_no
    obtain ⟨g3, hg_⟩ : ∃ g, g = w2.heap.size := ⟨_, rfl⟩
    rw [← hg_] at V3 ⊢
    simp only [List.nil_append, List.cons_append] at V3
    clear hk_ hs_ hb_ hg_
    clear V0 V1 V2
    by_cases hsame : m = n
    · subst hsame
      cases wh with
      | true =>
        have e : Hid (bothH pairD h m m true d p = if ((L : Int) == 0) = true then some (d, d) else none) := Lib.hid (by
          rw [bothH_same, HL.out]
          unfold lastB
          by_cases h0 : p = []
          · subst h0; rfl
          · have : 0 < p.length := List.length_pos_iff.2 h0
            rw [if_pos rfl, if_neg h0, if_neg (by simp; omega)])
        go_wp2_with fail
        refine wp_region_held_drew (S := fun W => Has 64 W [(g1, d)]) (by kernel_rfl) ((Has.sub (Vars.has (V3.drew 1)) (by intro p hp; simp only [List.mem_cons, List.not_mem_nil, or_false] at hp ⊢; subst hp; simp))) (fun hS => ?_)
        refine wpAnyH_take (i := 0) (v := dval d) rfl (by kernel_rfl) (by kernel_rfl) (by kernel_rfl) (fun _ _ _ h => h) (yieldsIf_load_D (by rfl) 64 _ rfl g1 (0) rfl d dd _ (fun W h => Has.rng h (i := 0) rfl) Tryd.underlying64 rfl sizeD) hS ?_
        refine wpAnyH_take (i := 1) (v := dval d) rfl (by kernel_rfl) (by kernel_rfl) (by kernel_rfl) (fun _ _ _ h => h) (yieldsIf_load_D (by rfl) 64 _ rfl g1 (0) rfl d dd _ (fun W h => Has.rng h (i := 0) rfl) Tryd.underlying64 rfl sizeD) hS ?_
        refine wpAnyH_take (i := 2) (v := ?_) rfl (by kernel_rfl) (by kernel_rfl) (by kernel_rfl) (fun _ _ _ h => h) (Or.inl ⟨by rfl, ?_⟩) hS ?_
        rotate_left
        · intro w _; go_simp; try with_reducible rfl
        simp only [List.getElem_toArray, List.getElem_cons_zero, List.getElem_cons_succ, Act.put, List.setIfInBounds_toArray, List.set_cons_zero, List.set_cons_succ]
        refine wpAnyH_take (i := 3) (v := ?_) rfl (by kernel_rfl) (by kernel_rfl) (by kernel_rfl) (fun _ _ _ h => h) (Or.inl ⟨by rfl, ?_⟩) hS ?_
        rotate_left
        · intro w _; go_simp; try with_reducible rfl
        simp only [List.getElem_toArray, List.getElem_cons_zero, List.getElem_cons_succ, Act.put, List.setIfInBounds_toArray, List.set_cons_zero, List.set_cons_succ]
        refine wpAnyH_take (i := 4) (v := ?_) rfl (by kernel_rfl) (by kernel_rfl) (by kernel_rfl) (fun _ _ _ h => h) (Or.inl ⟨by rfl, ?_⟩) hS ?_
        rotate_left
        · intro w _; go_simp; try with_reducible rfl
        simp only [List.getElem_toArray, List.getElem_cons_zero, List.getElem_cons_succ, Act.put, List.setIfInBounds_toArray, List.set_cons_zero, List.set_cons_succ]
        have Vd := V3.drew 1
        change Vars _ w (World.drew w3) _ at Vd
        obtain ⟨W, hW⟩ : ∃ W, W = World.drew w3 := ⟨_, rfl⟩
        rw [← hW] at hS Vd ⊢
        clear hW V3
        refine wpAnyH_ready (rs := [5]) (by kernel_rfl) (by simp) ?_
        refine AllReadyH.cons rfl (fun K hK => ?_) AllReadyH.nil
        rw [if_pos (by rfl)]
        simp only [List.getElem_toArray, List.getElem_cons_zero, List.getElem_cons_succ]
        refine wp_store_V 64 _ _ rfl g2 64 noDig d rfl rfl (Vars.at_ Vd (i := 1) rfl) dig_no dd sizeD ?_
        intro w5 hk_ hg_ hs_
        have V5 := Vars.set Vd 1 (g := g2) rfl hk_ hg_ dd
        simp only [List.set_cons_zero, List.set_cons_succ] at V5
        clear hk_ hg_ hs_ Vd
        refine hK.out _ _ (Has.sub V5.has (by intro p hp; simp only [List.mem_cons, List.not_mem_nil, or_false] at hp ⊢; subst hp; simp)) (fun hS => ?_)
        refine wpAnyH_ready (rs := [6]) (by kernel_rfl) (by simp) ?_
        refine AllReadyH.cons rfl (fun K hK => ?_) AllReadyH.nil
        rw [if_pos (by rfl)]
        simp only [List.getElem_toArray, List.getElem_cons_zero, List.getElem_cons_succ]
        refine wp_store_V 64 _ _ rfl g3 64 noDig d rfl rfl (Vars.at_ V5 (i := 2) rfl) dig_no dd sizeD ?_
        intro w6 hk_ hg_ hs_
        have V6 := Vars.set V5 2 (g := g3) rfl hk_ hg_ dd
        simp only [List.set_cons_zero, List.set_cons_succ] at V6
        clear hk_ hg_ hs_ V5
        refine hK.out _ _ (Has.sub V6.has (by intro p hp; simp only [List.mem_cons, List.not_mem_nil, or_false] at hp ⊢; subst hp; simp)) (fun hS => ?_)
        refine wpAnyH_ready (rs := [7]) (by kernel_rfl) (by simp) ?_
        refine AllReadyH.cons rfl (fun K hK => ?_) AllReadyH.nil
        rw [if_pos (by rfl)]
        simp only [List.getElem_toArray, List.getElem_cons_zero, List.getElem_cons_succ]
        go_simp
        refine hK.out _ _ hS (fun hS => ?_)
        refine wpAnyH_done (by kernel_rfl) ?_ _
        clear hS
        go_wp2_with fail
        exact bodyPost_ret (v := .tuple #[dval d, dval d, .bool ((L : Int) == 0)]) (results_dig2_tmp (p := 10) (q := 11) (u := 12) rfl rfl rfl (Vars.at_ V6 (i := 1) rfl) (Vars.at_ V6 (i := 2) rfl) dd dd Tryd.underlying64 rfl sizeD) rfl (BothPost.of V6 dd dd e.out)
      | false =>
        rcases snoc_cases p with rfl | ⟨q, z, rfl⟩
        · obtain rfl : L = 0 := HL.out
          have e : Hid (bothH pairD h m m false d [] = none) := Lib.hid (by rw [bothH_same]; rfl)
          go_wp2_with (first | (refine wpList_build0 rfl 64 rfl bltD ?_) | (refine wpList_store_V rfl 64 _ _ rfl g2 64 noDig noDig rfl rfl (Vars.at_ V3 (i := 1) rfl) (Vars.dig V3 (i := 1) rfl) dig_no sizeD ?_))
          intro w5 hk_ hg_ hs_
          have V5 := Vars.set V3 1 (g := g2) rfl hk_ hg_ dig_no
          simp only [List.set_cons_zero, List.set_cons_succ] at V5
          clear hk_ hg_ hs_ V3
          go_wp2_with (refine wpList_store_V rfl 64 _ _ rfl g3 64 noDig noDig rfl rfl (Vars.at_ V5 (i := 2) rfl) (Vars.dig V5 (i := 2) rfl) dig_no sizeD ?_)
          intro w6 hk_ hg_ hs_
          have V6 := Vars.set V5 2 (g := g3) rfl hk_ hg_ dig_no
          simp only [List.set_cons_zero, List.set_cons_succ] at V6
          clear hk_ hg_ hs_ V5
          go_wp2_with fail
          exact bodyPost_ret (v := .tuple #[dval noDig, dval noDig, .bool false]) (results_dig2_tmp (p := 10) (q := 11) (u := 12) rfl rfl rfl (Vars.at_ V6 (i := 1) rfl) (Vars.at_ V6 (i := 2) rfl) dig_no dig_no Tryd.underlying64 rfl sizeD) rfl (BothPost.of V6 dig_no dig_no (by rw [e.out]; rfl))
        · obtain ⟨M, hM⟩ : ∃ M, M = q.length := ⟨_, rfl⟩
          have HM := Lib.hid hM
          obtain rfl : L = M + 1 := by rw [HL.out, hM]; simp
          have dz : Dig z := sp.dig z (by simp)
          obtain ⟨b, off, rfl, hr⟩ := sp.last
          rw [← hM] at hr
          have ml : M + 1 ≤ cap := by have := sp.le; simp at this; omega
          have sq := sp.take M
          rw [show (q ++ [z]).take M = q by rw [hM]; exact List.take_left] at sq
          have hcut := fun W => run_toD (P := Tryd.prog) W 66 64 Tryd.underlying66 sizeD (some ⟨b, off, none⟩) (M + 1) cap M (by omega)
          have M0 : ¬ ((M : Int) + 1 = 0) := by omega
          have M1 : (((M : Int) + 1) == 0) = false := by simp; omega
          have lm : (M : Int) < (M : Int) + 1 := by omega
          have wM : IntKind.i64.wrap (M : Int) = (M : Int) := by rw [IntKind.wrap_i64]; have := sp.max; omega
          clear hM
          go_wp2_with fail
          refine wp_region_held_drew (S := fun W => W.rangeAt b (off + M * 32) (z.map (Value.int .u8))) (by kernel_rfl) ((World.rangeAt.keep hr dz (Vars.below (V3.drew 1)))) (fun hS => ?_)
          refine wpAnyH_take (i := 0) (v := ?_) rfl (by kernel_rfl) (by kernel_rfl) (by kernel_rfl) (fun _ _ _ h => h) (Or.inl ⟨by rfl, ?_⟩) hS ?_
          rotate_left
          · intro w _; go_simp; try with_reducible rfl
          simp only [List.getElem_toArray, List.getElem_cons_zero, List.getElem_cons_succ, Act.put, List.setIfInBounds_toArray, List.set_cons_zero, List.set_cons_succ]
          refine wpAnyH_take (i := 1) (v := ?_) rfl (by kernel_rfl) (by kernel_rfl) (by kernel_rfl) (fun _ _ _ h => h) (Or.inl ⟨by rfl, ?_⟩) hS ?_
          rotate_left
          · intro w _; go_simp; try with_reducible rfl
          simp only [List.getElem_toArray, List.getElem_cons_zero, List.getElem_cons_succ, Act.put, List.setIfInBounds_toArray, List.set_cons_zero, List.set_cons_succ]
          refine wpAnyH_take (i := 2) (v := ?_) rfl (by kernel_rfl) (by kernel_rfl) (by kernel_rfl) (fun _ _ _ h => h) (Or.inl ⟨by rfl, ?_⟩) hS ?_
          rotate_left
          · intro w _; go_simp; try with_reducible rfl
          simp only [List.getElem_toArray, List.getElem_cons_zero, List.getElem_cons_succ, Act.put, List.setIfInBounds_toArray, List.set_cons_zero, List.set_cons_succ]
          refine wpAnyH_take (i := 3) (v := ?_) rfl (by kernel_rfl) (by kernel_rfl) (by kernel_rfl) (fun _ _ _ h => h) (Or.inl ⟨by rfl, ?_⟩) hS ?_
          rotate_left
          · intro w _; go_simp; try with_reducible rfl
          simp only [List.getElem_toArray, List.getElem_cons_zero, List.getElem_cons_succ, Act.put, List.setIfInBounds_toArray, List.set_cons_zero, List.set_cons_succ]
          refine wpAnyH_take (i := 4) (v := ?_) rfl (by kernel_rfl) (by kernel_rfl) (by kernel_rfl) (fun _ _ _ h => h) (Or.inl ⟨by rfl, ?_⟩) hS ?_
          rotate_left
          · intro w _; go_simp; try with_reducible rfl
          simp only [List.getElem_toArray, List.getElem_cons_zero, List.getElem_cons_succ, Act.put, List.setIfInBounds_toArray, List.set_cons_zero, List.set_cons_succ]
          refine wpAnyH_take (i := 6) (v := ?_) rfl (by kernel_rfl) (by kernel_rfl) (by kernel_rfl) (fun _ _ _ h => h) (Or.inl ⟨by rfl, ?_⟩) hS ?_
          rotate_left
          · intro w _; go_simp; try with_reducible rfl
          simp only [List.getElem_toArray, List.getElem_cons_zero, List.getElem_cons_succ, Act.put, List.setIfInBounds_toArray, List.set_cons_zero, List.set_cons_succ]
          refine wpAnyH_take (i := 7) (v := ?_) rfl (by kernel_rfl) (by kernel_rfl) (by kernel_rfl) (fun _ _ _ h => h) (Or.inl ⟨by rfl, ?_⟩) hS ?_
          rotate_left
          · intro w _; go_simp; try with_reducible rfl
          simp only [List.getElem_toArray, List.getElem_cons_zero, List.getElem_cons_succ, Act.put, List.setIfInBounds_toArray, List.set_cons_zero, List.set_cons_succ]
          refine wpAnyH_take (i := 8) (v := ?_) rfl (by kernel_rfl) (by kernel_rfl) (by kernel_rfl) (fun _ _ _ h => h) (Or.inl ⟨by rfl, ?_⟩) hS ?_
          rotate_left
          · intro w _; go_simp; try with_reducible rfl
          simp only [List.getElem_toArray, List.getElem_cons_zero, List.getElem_cons_succ, Act.put, List.setIfInBounds_toArray, List.set_cons_zero, List.set_cons_succ]
          refine wpAnyH_take (i := 9) (v := ?_) rfl (by kernel_rfl) (by kernel_rfl) (by kernel_rfl) (fun _ _ _ h => h) (Or.inl ⟨by rfl, ?_⟩) hS ?_
          rotate_left
          · intro w _; go_simp; try with_reducible rfl
          simp only [List.getElem_toArray, List.getElem_cons_zero, List.getElem_cons_succ, Act.put, List.setIfInBounds_toArray, List.set_cons_zero, List.set_cons_succ]
          refine wpAnyH_take (i := 10) (v := ?_) rfl (by kernel_rfl) (by kernel_rfl) (by kernel_rfl) (fun _ _ _ h => h) (Or.inl ⟨by rfl, ?_⟩) hS ?_
          rotate_left
          · intro w _; go_simp; try with_reducible rfl
          simp only [List.getElem_toArray, List.getElem_cons_zero, List.getElem_cons_succ, Act.put, List.setIfInBounds_toArray, List.set_cons_zero, List.set_cons_succ]
          refine wpAnyH_take (i := 5) (v := dval z) rfl (by kernel_rfl) (by kernel_rfl) (by kernel_rfl) (fun _ _ _ h => h) (yieldsIf_load_D (by rfl) 64 _ rfl b (off + M * 32) rfl z dz _ (fun W h => h) Tryd.underlying64 rfl sizeD) hS ?_
          have V3d := V3.drew 1
          change Vars _ w (World.drew w3) _ at V3d
          obtain ⟨W, hW⟩ : ∃ W, W = World.drew w3 := ⟨_, rfl⟩
          rw [← hW] at hS V3d ⊢
          clear hW V3
          refine wpAnyH_ready (rs := [11]) (by kernel_rfl) (by simp) ?_
          refine AllReadyH.cons rfl (fun K hK => ?_) AllReadyH.nil
          rw [if_pos (by rfl)]
          simp only [List.getElem_toArray, List.getElem_cons_zero, List.getElem_cons_succ]
          refine wp_alloc_D 64 rfl zeroD ?_
          intro w4 hk4 hs4 hb4
          have V4 := Vars.add V3d hk4 hb4 dig_no
          obtain ⟨g4, hg4⟩ : ∃ g, g = W.heap.size := ⟨_, rfl⟩
          rw [← hg4] at V4 ⊢
          simp only [List.nil_append, List.cons_append] at V4
          clear hk4 hs4 hb4 hg4 V3d
          refine hK.out _ _ (World.rangeAt.keep hr dz V4.below) (fun hS => ?_)
          refine wpAnyH_ready (rs := [12]) (by kernel_rfl) (by simp) ?_
          refine AllReadyH.cons rfl (fun K hK => ?_) AllReadyH.nil
          rw [if_pos (by rfl)]
          simp only [List.getElem_toArray, List.getElem_cons_zero, List.getElem_cons_succ]
          refine wp_store_V 64 _ _ rfl g4 64 noDig z rfl rfl (Vars.at_ V4 (i := 3) rfl) dig_no dz sizeD ?_
          intro w5 hk_ hg_ hs_
          have V5 := Vars.set V4 3 (g := g4) rfl hk_ hg_ dz
          simp only [List.set_cons_zero, List.set_cons_succ] at V5
          clear hk_ hg_ hs_ V4
          refine hK.out _ _ (World.rangeAt.keep hr dz V5.below) (fun hS => ?_)
          refine wpAnyH_ready (rs := [13]) (by kernel_rfl) (by simp) ?_
          refine AllReadyH.cons rfl (fun K hK => ?_) AllReadyH.nil
          rw [if_pos (by rfl)]
          simp only [List.getElem_toArray, List.getElem_cons_zero, List.getElem_cons_succ]
          go_simp
          refine hK.out _ _ hS (fun hS => ?_)
          refine wpAnyH_done (by kernel_rfl) ?_ _
          clear hS

          have e : Hid (bothH pairD h m m false d (q ++ [z]) = if ((M : Int) == 0) = true then some (z, z) else none) := Lib.hid (by
            rw [bothH_same, HM.out]
            unfold lastB
            match q with
            | [] => rfl
            | y :: q => simp; omega)
          go_wp2_with fail
          refine wp_region_held_drew (S := fun W => Has 64 W [(g4, z)]) (by kernel_rfl) ((Has.sub (Vars.has (V5.drew 1)) (by intro p hp; simp only [List.mem_cons, List.not_mem_nil, or_false] at hp ⊢; subst hp; simp))) (fun hS => ?_)
          refine wpAnyH_take (i := 0) (v := dval z) rfl (by kernel_rfl) (by kernel_rfl) (by kernel_rfl) (fun _ _ _ h => h) (yieldsIf_load_D (by rfl) 64 _ rfl g4 (0) rfl z dz _ (fun W h => Has.rng h (i := 0) rfl) Tryd.underlying64 rfl sizeD) hS ?_
          refine wpAnyH_take (i := 1) (v := dval z) rfl (by kernel_rfl) (by kernel_rfl) (by kernel_rfl) (fun _ _ _ h => h) (yieldsIf_load_D (by rfl) 64 _ rfl g4 (0) rfl z dz _ (fun W h => Has.rng h (i := 0) rfl) Tryd.underlying64 rfl sizeD) hS ?_
          refine wpAnyH_take (i := 2) (v := ?_) rfl (by kernel_rfl) (by kernel_rfl) (by kernel_rfl) (fun _ _ _ h => h) (Or.inl ⟨by rfl, ?_⟩) hS ?_
          rotate_left
          · intro w _; go_simp; try with_reducible rfl
          simp only [List.getElem_toArray, List.getElem_cons_zero, List.getElem_cons_succ, Act.put, List.setIfInBounds_toArray, List.set_cons_zero, List.set_cons_succ]
          refine wpAnyH_take (i := 3) (v := ?_) rfl (by kernel_rfl) (by kernel_rfl) (by kernel_rfl) (fun _ _ _ h => h) (Or.inl ⟨by rfl, ?_⟩) hS ?_
          rotate_left
          · intro w _; go_simp; try with_reducible rfl
          simp only [List.getElem_toArray, List.getElem_cons_zero, List.getElem_cons_succ, Act.put, List.setIfInBounds_toArray, List.set_cons_zero, List.set_cons_succ]
          refine wpAnyH_take (i := 4) (v := ?_) rfl (by kernel_rfl) (by kernel_rfl) (by kernel_rfl) (fun _ _ _ h => h) (Or.inl ⟨by rfl, ?_⟩) hS ?_
          rotate_left
          · intro w _; go_simp; try with_reducible rfl
          simp only [List.getElem_toArray, List.getElem_cons_zero, List.getElem_cons_succ, Act.put, List.setIfInBounds_toArray, List.set_cons_zero, List.set_cons_succ]
          have Vd := V5.drew 1
          change Vars _ w (World.drew w5) _ at Vd
          obtain ⟨W, hW⟩ : ∃ W, W = World.drew w5 := ⟨_, rfl⟩
          rw [← hW] at hS Vd ⊢
          clear hW V5
          refine wpAnyH_ready (rs := [5]) (by kernel_rfl) (by simp) ?_
          refine AllReadyH.cons rfl (fun K hK => ?_) AllReadyH.nil
          rw [if_pos (by rfl)]
          simp only [List.getElem_toArray, List.getElem_cons_zero, List.getElem_cons_succ]
          refine wp_store_V 64 _ _ rfl g2 64 noDig z rfl rfl (Vars.at_ Vd (i := 1) rfl) dig_no dz sizeD ?_
          intro w7 hk_ hg_ hs_
          have V7 := Vars.set Vd 1 (g := g2) rfl hk_ hg_ dz
          simp only [List.set_cons_zero, List.set_cons_succ] at V7
          clear hk_ hg_ hs_ Vd
          refine hK.out _ _ (Has.sub V7.has (by intro p hp; simp only [List.mem_cons, List.not_mem_nil, or_false] at hp ⊢; subst hp; simp)) (fun hS => ?_)
          refine wpAnyH_ready (rs := [6]) (by kernel_rfl) (by simp) ?_
          refine AllReadyH.cons rfl (fun K hK => ?_) AllReadyH.nil
          rw [if_pos (by rfl)]
          simp only [List.getElem_toArray, List.getElem_cons_zero, List.getElem_cons_succ]
          refine wp_store_V 64 _ _ rfl g3 64 noDig z rfl rfl (Vars.at_ V7 (i := 2) rfl) dig_no dz sizeD ?_
          intro w8 hk_ hg_ hs_
          have V8 := Vars.set V7 2 (g := g3) rfl hk_ hg_ dz
          simp only [List.set_cons_zero, List.set_cons_succ] at V8
          clear hk_ hg_ hs_ V7
          refine hK.out _ _ (Has.sub V8.has (by intro p hp; simp only [List.mem_cons, List.not_mem_nil, or_false] at hp ⊢; subst hp; simp)) (fun hS => ?_)
          refine wpAnyH_ready (rs := [7]) (by kernel_rfl) (by simp) ?_
          refine AllReadyH.cons rfl (fun K hK => ?_) AllReadyH.nil
          rw [if_pos (by rfl)]
          simp only [List.getElem_toArray, List.getElem_cons_zero, List.getElem_cons_succ]
          go_simp
          refine hK.out _ _ hS (fun hS => ?_)
          refine wpAnyH_done (by kernel_rfl) ?_ _
          clear hS
          go_wp2_with fail
          exact bodyPost_ret (v := .tuple #[dval z, dval z, .bool ((M : Int) == 0)]) (results_dig2_tmp (p := 10) (q := 11) (u := 12) rfl rfl rfl (Vars.at_ V8 (i := 1) rfl) (Vars.at_ V8 (i := 2) rfl) dz dz Tryd.underlying64 rfl sizeD) rfl (BothPost.of V8 dz dz e.out)
    · have hne : ((m : Int) == (n : Int)) = false := by simp; omega
      have hni : ¬ ((m : Int) = (n : Int)) := by omega
      rcases snoc_cases p with rfl | ⟨q, z, rfl⟩
      · obtain rfl : L = 0 := HL.out
        have e : Hid (bothH pairD h n m wh d [] = none) := Lib.hid (bothH_nil hsame h hh hmn h1)
        go_wp2_with (first | (refine wpList_build0 rfl 64 rfl bltD ?_) | (refine wpList_store_V rfl 64 _ _ rfl g2 64 noDig noDig rfl rfl (Vars.at_ V3 (i := 1) rfl) (Vars.dig V3 (i := 1) rfl) dig_no sizeD ?_))
        intro w5 hk_ hg_ hs_
        have V5 := Vars.set V3 1 (g := g2) rfl hk_ hg_ dig_no
        simp only [List.set_cons_zero, List.set_cons_succ] at V5
        clear hk_ hg_ hs_ V3
        go_wp2_with (refine wpList_store_V rfl 64 _ _ rfl g3 64 noDig noDig rfl rfl (Vars.at_ V5 (i := 2) rfl) (Vars.dig V5 (i := 2) rfl) dig_no sizeD ?_)
        intro w6 hk_ hg_ hs_
        have V6 := Vars.set V5 2 (g := g3) rfl hk_ hg_ dig_no
        simp only [List.set_cons_zero, List.set_cons_succ] at V6
        clear hk_ hg_ hs_ V5
        go_wp2_with fail
        exact bodyPost_ret (v := .tuple #[dval noDig, dval noDig, .bool false]) (results_dig2_tmp (p := 10) (q := 11) (u := 12) rfl rfl rfl (Vars.at_ V6 (i := 1) rfl) (Vars.at_ V6 (i := 2) rfl) dig_no dig_no Tryd.underlying64 rfl sizeD) rfl (BothPost.of V6 dig_no dig_no (by rw [e.out]; rfl))
      · obtain ⟨M, hM⟩ : ∃ M, M = q.length := ⟨_, rfl⟩
        have HM := Lib.hid hM
        obtain rfl : L = M + 1 := by rw [HL.out, hM]; simp
        have dz : Dig z := sp.dig z (by simp)
        obtain ⟨b, off, rfl, hr⟩ := sp.last
        rw [← hM] at hr
        have ml : M + 1 ≤ cap := by have := sp.le; simp at this; omega
        have sq := sp.take M
        rw [show (q ++ [z]).take M = q by rw [hM]; exact List.take_left] at sq
        have hcut := fun W => run_toD (P := Tryd.prog) W 66 64 Tryd.underlying66 sizeD (some ⟨b, off, none⟩) (M + 1) cap M (by omega)
        have M0 : ¬ ((M : Int) + 1 = 0) := by omega
        have M1 : (((M : Int) + 1) == 0) = false := by simp; omega
        have lm : (M : Int) < (M : Int) + 1 := by omega
        have wM : IntKind.i64.wrap (M : Int) = (M : Int) := by rw [IntKind.wrap_i64]; have := sp.max; omega
        clear hM
        go_wp2_with fail
        refine wp_region_held_drew (S := fun W => W.rangeAt b (off + M * 32) (z.map (Value.int .u8))) (by kernel_rfl) ((World.rangeAt.keep hr dz (Vars.below (V3.drew 1)))) (fun hS => ?_)
        refine wpAnyH_take (i := 0) (v := ?_) rfl (by kernel_rfl) (by kernel_rfl) (by kernel_rfl) (fun _ _ _ h => h) (Or.inl ⟨by rfl, ?_⟩) hS ?_
        rotate_left
        · intro w _; go_simp; try with_reducible rfl
        simp only [List.getElem_toArray, List.getElem_cons_zero, List.getElem_cons_succ, Act.put, List.setIfInBounds_toArray, List.set_cons_zero, List.set_cons_succ]
        refine wpAnyH_take (i := 1) (v := ?_) rfl (by kernel_rfl) (by kernel_rfl) (by kernel_rfl) (fun _ _ _ h => h) (Or.inl ⟨by rfl, ?_⟩) hS ?_
        rotate_left
        · intro w _; go_simp; try with_reducible rfl
        simp only [List.getElem_toArray, List.getElem_cons_zero, List.getElem_cons_succ, Act.put, List.setIfInBounds_toArray, List.set_cons_zero, List.set_cons_succ]
        refine wpAnyH_take (i := 2) (v := ?_) rfl (by kernel_rfl) (by kernel_rfl) (by kernel_rfl) (fun _ _ _ h => h) (Or.inl ⟨by rfl, ?_⟩) hS ?_
        rotate_left
        · intro w _; go_simp; try with_reducible rfl
        simp only [List.getElem_toArray, List.getElem_cons_zero, List.getElem_cons_succ, Act.put, List.setIfInBounds_toArray, List.set_cons_zero, List.set_cons_succ]
        refine wpAnyH_take (i := 3) (v := ?_) rfl (by kernel_rfl) (by kernel_rfl) (by kernel_rfl) (fun _ _ _ h => h) (Or.inl ⟨by rfl, ?_⟩) hS ?_
        rotate_left
        · intro w _; go_simp; try with_reducible rfl
        simp only [List.getElem_toArray, List.getElem_cons_zero, List.getElem_cons_succ, Act.put, List.setIfInBounds_toArray, List.set_cons_zero, List.set_cons_succ]
        refine wpAnyH_take (i := 4) (v := ?_) rfl (by kernel_rfl) (by kernel_rfl) (by kernel_rfl) (fun _ _ _ h => h) (Or.inl ⟨by rfl, ?_⟩) hS ?_
        rotate_left
        · intro w _; go_simp; try with_reducible rfl
        simp only [List.getElem_toArray, List.getElem_cons_zero, List.getElem_cons_succ, Act.put, List.setIfInBounds_toArray, List.set_cons_zero, List.set_cons_succ]
        refine wpAnyH_take (i := 6) (v := ?_) rfl (by kernel_rfl) (by kernel_rfl) (by kernel_rfl) (fun _ _ _ h => h) (Or.inl ⟨by rfl, ?_⟩) hS ?_
        rotate_left
        · intro w _; go_simp; try with_reducible rfl
        simp only [List.getElem_toArray, List.getElem_cons_zero, List.getElem_cons_succ, Act.put, List.setIfInBounds_toArray, List.set_cons_zero, List.set_cons_succ]
        refine wpAnyH_take (i := 7) (v := ?_) rfl (by kernel_rfl) (by kernel_rfl) (by kernel_rfl) (fun _ _ _ h => h) (Or.inl ⟨by rfl, ?_⟩) hS ?_
        rotate_left
        · intro w _; go_simp; try with_reducible rfl
        simp only [List.getElem_toArray, List.getElem_cons_zero, List.getElem_cons_succ, Act.put, List.setIfInBounds_toArray, List.set_cons_zero, List.set_cons_succ]
        refine wpAnyH_take (i := 8) (v := ?_) rfl (by kernel_rfl) (by kernel_rfl) (by kernel_rfl) (fun _ _ _ h => h) (Or.inl ⟨by rfl, ?_⟩) hS ?_
        rotate_left
        · intro w _; go_simp; try with_reducible rfl
        simp only [List.getElem_toArray, List.getElem_cons_zero, List.getElem_cons_succ, Act.put, List.setIfInBounds_toArray, List.set_cons_zero, List.set_cons_succ]
        refine wpAnyH_take (i := 9) (v := ?_) rfl (by kernel_rfl) (by kernel_rfl) (by kernel_rfl) (fun _ _ _ h => h) (Or.inl ⟨by rfl, ?_⟩) hS ?_
        rotate_left
        · intro w _; go_simp; try with_reducible rfl
        simp only [List.getElem_toArray, List.getElem_cons_zero, List.getElem_cons_succ, Act.put, List.setIfInBounds_toArray, List.set_cons_zero, List.set_cons_succ]
        refine wpAnyH_take (i := 10) (v := ?_) rfl (by kernel_rfl) (by kernel_rfl) (by kernel_rfl) (fun _ _ _ h => h) (Or.inl ⟨by rfl, ?_⟩) hS ?_
        rotate_left
        · intro w _; go_simp; try with_reducible rfl
        simp only [List.getElem_toArray, List.getElem_cons_zero, List.getElem_cons_succ, Act.put, List.setIfInBounds_toArray, List.set_cons_zero, List.set_cons_succ]
        refine wpAnyH_take (i := 5) (v := dval z) rfl (by kernel_rfl) (by kernel_rfl) (by kernel_rfl) (fun _ _ _ h => h) (yieldsIf_load_D (by rfl) 64 _ rfl b (off + M * 32) rfl z dz _ (fun W h => h) Tryd.underlying64 rfl sizeD) hS ?_
        have V3d := V3.drew 1
        change Vars _ w (World.drew w3) _ at V3d
        obtain ⟨W, hW⟩ : ∃ W, W = World.drew w3 := ⟨_, rfl⟩
        rw [← hW] at hS V3d ⊢
        clear hW V3
        refine wpAnyH_ready (rs := [11]) (by kernel_rfl) (by simp) ?_
        refine AllReadyH.cons rfl (fun K hK => ?_) AllReadyH.nil
        rw [if_pos (by rfl)]
        simp only [List.getElem_toArray, List.getElem_cons_zero, List.getElem_cons_succ]
        refine wp_alloc_D 64 rfl zeroD ?_
        intro w4 hk4 hs4 hb4
        have V4 := Vars.add V3d hk4 hb4 dig_no
        obtain ⟨g4, hg4⟩ : ∃ g, g = W.heap.size := ⟨_, rfl⟩
        rw [← hg4] at V4 ⊢
        simp only [List.nil_append, List.cons_append] at V4
        clear hk4 hs4 hb4 hg4 V3d
        refine hK.out _ _ (World.rangeAt.keep hr dz V4.below) (fun hS => ?_)
        refine wpAnyH_ready (rs := [12]) (by kernel_rfl) (by simp) ?_
        refine AllReadyH.cons rfl (fun K hK => ?_) AllReadyH.nil
        rw [if_pos (by rfl)]
        simp only [List.getElem_toArray, List.getElem_cons_zero, List.getElem_cons_succ]
        refine wp_store_V 64 _ _ rfl g4 64 noDig z rfl rfl (Vars.at_ V4 (i := 3) rfl) dig_no dz sizeD ?_
        intro w5 hk_ hg_ hs_
        have V5 := Vars.set V4 3 (g := g4) rfl hk_ hg_ dz
        simp only [List.set_cons_zero, List.set_cons_succ] at V5
        clear hk_ hg_ hs_ V4
        refine hK.out _ _ (World.rangeAt.keep hr dz V5.below) (fun hS => ?_)
        refine wpAnyH_ready (rs := [13]) (by kernel_rfl) (by simp) ?_
        refine AllReadyH.cons rfl (fun K hK => ?_) AllReadyH.nil
        rw [if_pos (by rfl)]
        simp only [List.getElem_toArray, List.getElem_cons_zero, List.getElem_cons_succ]
        go_simp
        refine hK.out _ _ hS (fun hS => ?_)
        refine wpAnyH_done (by kernel_rfl) ?_ _
        clear hS

        obtain ⟨k, j, hk, hkn, hnk, hs⟩ := split_any n (by omega) hm
        have HK := Lib.hid hk
        clear hk
        have nn : (n : Int) ≤ 9223372036854775807 := by omega
        go_wp2_with fail
        refine (hs _).mono ?_; rintro e w' ⟨rfl, hw'⟩; have hw2 := hw'.symm; subst hw2; clear hw'
        have k0 : 0 < k := by rw [HK.out]; exact Nat.pow_pos (by omega)
        by_cases cmk : m ≤ k
        · have hd : decide ((m : Int) ≤ (k : Int)) = true := decide_eq_true (by omega)
          have hi2 : (m : Int) ≤ (k : Int) := by omega
          have cl := IH k (by omega) j m wh d (some ⟨b, off, none⟩) cap q w5 h1 cmk (Nat.le_of_eq HK.out) (by omega) dd (sq.below V5.below) (ht.below V5.below)

          rw [← HM.out] at cl
          go_wp2_with (refine wpList_load_V rfl 64 _ rfl g1 64 d rfl (Vars.at_ V5 (i := 0) rfl) (Vars.dig V5 (i := 0) rfl) _ Tryd.underlying64 rfl sizeD ?_)
          refine cl.mono ?_; rintro e w6 ⟨x, y, ok, rfl, dx, dy, er, hb6⟩
          have ER := Lib.hid er
          have V6 := V5.keep hb6
          clear cl er hb6 V5
          go_wp2_with (with_reducible refine wpList_alloc_rw rfl 64 rfl (noDig.map (Value.int .u8)) _ zeroD ?_)
          intro w7 hk_ hs_ hb_
          have V7 := Vars.add V6 hk_ hb_ dig_no
          obtain ⟨g5, hg_⟩ : ∃ g, g = w6.heap.size := ⟨_, rfl⟩
          rw [← hg_] at V7 ⊢
          simp only [List.nil_append, List.cons_append] at V7
          clear hk_ hs_ hb_ hg_
          go_wp2_with (with_reducible refine wpList_alloc_rw rfl 64 rfl (noDig.map (Value.int .u8)) _ zeroD ?_)
          intro w8 hk_ hs_ hb_
          have V8 := Vars.add V7 hk_ hb_ dig_no
          obtain ⟨g6, hg_⟩ : ∃ g, g = w7.heap.size := ⟨_, rfl⟩
          rw [← hg_] at V8 ⊢
          simp only [List.nil_append, List.cons_append] at V8
          clear hk_ hs_ hb_ hg_
          clear V6 V7
          go_wp2_with (refine wpList_store_V rfl 64 _ _ rfl g5 64 noDig x rfl rfl (Vars.at_ V8 (i := 4) rfl) (Vars.dig V8 (i := 4) rfl) dx sizeD ?_)
          intro w9 hk_ hg_ hs_
          have V9 := Vars.set V8 4 (g := g5) rfl hk_ hg_ dx
          simp only [List.set_cons_zero, List.set_cons_succ] at V9
          clear hk_ hg_ hs_ V8
          go_wp2_with (refine wpList_store_V rfl 64 _ _ rfl g6 64 noDig y rfl rfl (Vars.at_ V9 (i := 5) rfl) (Vars.dig V9 (i := 5) rfl) dy sizeD ?_)
          intro w10 hk_ hg_ hs_
          have V10 := Vars.set V9 5 (g := g6) rfl hk_ hg_ dy
          simp only [List.set_cons_zero, List.set_cons_succ] at V10
          clear hk_ hg_ hs_ V9
          go_wp2_with fail
          refine wp_region_held_drew (S := fun W => Has 64 W [(g4, z), (g5, x), (g6, y)]) (by kernel_rfl) ((Has.sub (V10.drew 1).has (by intro p hp; simp only [List.mem_cons, List.not_mem_nil, or_false] at hp ⊢; rcases hp with rfl | rfl | rfl <;> simp))) (fun hS => ?_)
          refine wpAnyH_take (i := 0) (v := dval x) rfl (by kernel_rfl) (by kernel_rfl) (by kernel_rfl) (fun _ _ _ h => h) (yieldsIf_load_D (by rfl) 64 _ rfl g5 (0) rfl x dx _ (fun W h => Has.rng h (i := 1) rfl) Tryd.underlying64 rfl sizeD) hS ?_
          refine wpAnyH_take (i := 1) (v := dval y) rfl (by kernel_rfl) (by kernel_rfl) (by kernel_rfl) (fun _ _ _ h => h) (yieldsIf_load_D (by rfl) 64 _ rfl g6 (0) rfl y dy _ (fun W h => Has.rng h (i := 2) rfl) Tryd.underlying64 rfl sizeD) hS ?_
          refine wpAnyH_take (i := 2) (v := dval z) rfl (by kernel_rfl) (by kernel_rfl) (by kernel_rfl) (fun _ _ _ h => h) (yieldsIf_load_D (by rfl) 64 _ rfl g4 (0) rfl z dz _ (fun W h => Has.rng h (i := 0) rfl) Tryd.underlying64 rfl sizeD) hS ?_
          refine wpAnyH_take (i := 4) (v := ?_) rfl (by kernel_rfl) (by kernel_rfl) (by kernel_rfl) (fun _ _ _ h => h) (Or.inl ⟨by rfl, ?_⟩) hS ?_
          rotate_left
          · intro w _; go_simp; try with_reducible rfl
          simp only [List.getElem_toArray, List.getElem_cons_zero, List.getElem_cons_succ, Act.put, List.setIfInBounds_toArray, List.set_cons_zero, List.set_cons_succ]
          have V10d := V10.drew 1
          change Vars _ w (World.drew w10) _ at V10d
          obtain ⟨W, hW⟩ : ∃ W, W = World.drew w10 := ⟨_, rfl⟩
          rw [← hW] at hS V10d ⊢
          clear hW V10
          refine wpAnyH_ready (rs := [3]) (by kernel_rfl) (by simp) ?_
          refine AllReadyH.cons rfl (fun K hK => ?_) AllReadyH.nil
          rw [if_pos (by rfl)]
          simp only [List.getElem_toArray, List.getElem_cons_zero, List.getElem_cons_succ]
          go_simp
          refine (pair_c y z W dy dz (ht.below V10d.below)).mono ?_; rintro e w11 ⟨rfl, hb_⟩
          dsimp only
          have V11 := V10d.keep hb_
          refine hK.out _ _ (Has.keep hS hb_) (fun hS => ?_)
          clear hb_ V10d
          refine wpAnyH_ready (rs := [5]) (by kernel_rfl) (by simp) ?_
          refine AllReadyH.cons rfl (fun K hK => ?_) AllReadyH.nil
          rw [if_pos (by rfl)]
          simp only [List.getElem_toArray, List.getElem_cons_zero, List.getElem_cons_succ]
          refine wp_store_V 64 _ _ rfl g2 64 noDig x rfl rfl (Vars.at_ V11 (i := 1) rfl) dig_no dx sizeD ?_
          intro w12 hk_ hg_ hs_
          have V12 := Vars.set V11 1 (g := g2) rfl hk_ hg_ dx
          simp only [List.set_cons_zero, List.set_cons_succ] at V12
          clear hk_ hg_ hs_ V11
          refine hK.out _ _ (Has.sub V12.has (by intro p hp; simp only [List.mem_cons, List.not_mem_nil, or_false] at hp ⊢; rcases hp with rfl | rfl | rfl <;> simp)) (fun hS => ?_)
          refine wpAnyH_ready (rs := [6]) (by kernel_rfl) (by simp) ?_
          refine AllReadyH.cons rfl (fun K hK => ?_) AllReadyH.nil
          rw [if_pos (by rfl)]
          simp only [List.getElem_toArray, List.getElem_cons_zero, List.getElem_cons_succ]
          refine wp_store_V 64 _ _ rfl g3 64 noDig (pairD y z) rfl rfl (Vars.at_ V12 (i := 2) rfl) dig_no (shaD_dig _) sizeD ?_
          intro w13 hk_ hg_ hs_
          have V13 := Vars.set V12 2 (g := g3) rfl hk_ hg_ (shaD_dig _)
          simp only [List.set_cons_zero, List.set_cons_succ] at V13
          clear hk_ hg_ hs_ V12
          refine hK.out _ _ (Has.sub V13.has (by intro p hp; simp only [List.mem_cons, List.not_mem_nil, or_false] at hp ⊢; rcases hp with rfl | rfl | rfl <;> simp)) (fun hS => ?_)
          refine wpAnyH_ready (rs := [7]) (by kernel_rfl) (by simp) ?_
          refine AllReadyH.cons rfl (fun K hK => ?_) AllReadyH.nil
          rw [if_pos (by rfl)]
          simp only [List.getElem_toArray, List.getElem_cons_zero, List.getElem_cons_succ]
          go_simp
          refine hK.out _ _ hS (fun hS => ?_)
          refine wpAnyH_done (by kernel_rfl) ?_ _
          clear hS
          go_wp2_with fail
          exact bodyPost_ret (v := .tuple #[dval x, dval (pairD y z), .bool ok]) (results_dig2_tmp (p := 10) (q := 11) (u := 12) rfl rfl rfl (Vars.at_ V13 (i := 1) rfl) (Vars.at_ V13 (i := 2) rfl) dx (shaD_dig _) Tryd.underlying64 rfl sizeD) rfl (BothPost.of V13 dx (shaD_dig _) (by rw [bothH_any hh (h' := j + 1) hnk, bothH_left (by rw [← HK.out]; omega) (by rw [← HK.out]; omega), ← HK.out, ER.out]; cases ok <;> rfl))
        · have hd : decide ((m : Int) ≤ (k : Int)) = false := decide_eq_false (by omega)
          have hi2 : ¬ (m : Int) ≤ (k : Int) := by omega
          have kk : (k : Int) < (n : Int) := by omega
          have mn : (m : Int) ≤ (n : Int) := by omega
          have cl := IH (n - k) (by omega) j (m - k) false d (some ⟨b, off, none⟩) cap q w5 (by omega) (by omega) (by have := HK.out; have := pow2_succ j; omega) (by omega) dd (sq.below V5.below) (ht.below V5.below)
          rw [show ((n - k : Nat) : Int) = (n : Int) - (k : Int) by omega, show ((m - k : Nat) : Int) = (m : Int) - (k : Int) by omega] at cl

          rw [← HM.out] at cl
          go_wp2_with (refine wpList_load_V rfl 64 _ rfl g1 64 d rfl (Vars.at_ V5 (i := 0) rfl) (Vars.dig V5 (i := 0) rfl) _ Tryd.underlying64 rfl sizeD ?_)
          refine cl.mono ?_; rintro e w6 ⟨x, y, ok, rfl, dx, dy, er, hb6⟩
          have ER := Lib.hid er
          have V6 := V5.keep hb6
          clear cl er hb6 V5
          go_wp2_with (with_reducible refine wpList_alloc_rw rfl 64 rfl (noDig.map (Value.int .u8)) _ zeroD ?_)
          intro w7 hk_ hs_ hb_
          have V7 := Vars.add V6 hk_ hb_ dig_no
          obtain ⟨g5, hg_⟩ : ∃ g, g = w6.heap.size := ⟨_, rfl⟩
          rw [← hg_] at V7 ⊢
          simp only [List.nil_append, List.cons_append] at V7
          clear hk_ hs_ hb_ hg_
          go_wp2_with (with_reducible refine wpList_alloc_rw rfl 64 rfl (noDig.map (Value.int .u8)) _ zeroD ?_)
          intro w8 hk_ hs_ hb_
          have V8 := Vars.add V7 hk_ hb_ dig_no
          obtain ⟨g6, hg_⟩ : ∃ g, g = w7.heap.size := ⟨_, rfl⟩
          rw [← hg_] at V8 ⊢
          simp only [List.nil_append, List.cons_append] at V8
          clear hk_ hs_ hb_ hg_
          clear V6 V7
          go_wp2_with (refine wpList_store_V rfl 64 _ _ rfl g5 64 noDig x rfl rfl (Vars.at_ V8 (i := 4) rfl) (Vars.dig V8 (i := 4) rfl) dx sizeD ?_)
          intro w9 hk_ hg_ hs_
          have V9 := Vars.set V8 4 (g := g5) rfl hk_ hg_ dx
          simp only [List.set_cons_zero, List.set_cons_succ] at V9
          clear hk_ hg_ hs_ V8
          go_wp2_with (refine wpList_store_V rfl 64 _ _ rfl g6 64 noDig y rfl rfl (Vars.at_ V9 (i := 5) rfl) (Vars.dig V9 (i := 5) rfl) dy sizeD ?_)
          intro w10 hk_ hg_ hs_
          have V10 := Vars.set V9 5 (g := g6) rfl hk_ hg_ dy
          simp only [List.set_cons_zero, List.set_cons_succ] at V10
          clear hk_ hg_ hs_ V9
          go_wp2_with fail
          refine wp_region_held_drew (S := fun W => Has 64 W [(g4, z), (g5, x), (g6, y)]) (by kernel_rfl) ((Has.sub (V10.drew 1).has (by intro p hp; simp only [List.mem_cons, List.not_mem_nil, or_false] at hp ⊢; rcases hp with rfl | rfl | rfl <;> simp))) (fun hS => ?_)
          refine wpAnyH_take (i := 0) (v := dval z) rfl (by kernel_rfl) (by kernel_rfl) (by kernel_rfl) (fun _ _ _ h => h) (yieldsIf_load_D (by rfl) 64 _ rfl g4 (0) rfl z dz _ (fun W h => Has.rng h (i := 0) rfl) Tryd.underlying64 rfl sizeD) hS ?_
          refine wpAnyH_take (i := 1) (v := dval x) rfl (by kernel_rfl) (by kernel_rfl) (by kernel_rfl) (fun _ _ _ h => h) (yieldsIf_load_D (by rfl) 64 _ rfl g5 (0) rfl x dx _ (fun W h => Has.rng h (i := 1) rfl) Tryd.underlying64 rfl sizeD) hS ?_
          refine wpAnyH_take (i := 3) (v := dval z) rfl (by kernel_rfl) (by kernel_rfl) (by kernel_rfl) (fun _ _ _ h => h) (yieldsIf_load_D (by rfl) 64 _ rfl g4 (0) rfl z dz _ (fun W h => Has.rng h (i := 0) rfl) Tryd.underlying64 rfl sizeD) hS ?_
          refine wpAnyH_take (i := 4) (v := dval y) rfl (by kernel_rfl) (by kernel_rfl) (by kernel_rfl) (fun _ _ _ h => h) (yieldsIf_load_D (by rfl) 64 _ rfl g6 (0) rfl y dy _ (fun W h => Has.rng h (i := 2) rfl) Tryd.underlying64 rfl sizeD) hS ?_
          refine wpAnyH_take (i := 6) (v := ?_) rfl (by kernel_rfl) (by kernel_rfl) (by kernel_rfl) (fun _ _ _ h => h) (Or.inl ⟨by rfl, ?_⟩) hS ?_
          rotate_left
          · intro w _; go_simp; try with_reducible rfl
          simp only [List.getElem_toArray, List.getElem_cons_zero, List.getElem_cons_succ, Act.put, List.setIfInBounds_toArray, List.set_cons_zero, List.set_cons_succ]
          have V10d := V10.drew 1
          change Vars _ w (World.drew w10) _ at V10d
          obtain ⟨W, hW⟩ : ∃ W, W = World.drew w10 := ⟨_, rfl⟩
          rw [← hW] at hS V10d ⊢
          clear hW V10
          refine wpAnyH_ready (rs := [2]) (by kernel_rfl) (by simp) ?_
          refine AllReadyH.cons rfl (fun K hK => ?_) AllReadyH.nil
          rw [if_pos (by rfl)]
          simp only [List.getElem_toArray, List.getElem_cons_zero, List.getElem_cons_succ]
          go_simp
          refine (pair_c z x W dz dx (ht.below V10d.below)).mono ?_; rintro e w11 ⟨rfl, hb_⟩
          dsimp only
          have V11 := V10d.keep hb_
          refine hK.out _ _ (Has.keep hS hb_) (fun hS => ?_)
          clear hb_ V10d
          refine wpAnyH_ready (rs := [5]) (by kernel_rfl) (by simp) ?_
          refine AllReadyH.cons rfl (fun K hK => ?_) AllReadyH.nil
          rw [if_pos (by rfl)]
          simp only [List.getElem_toArray, List.getElem_cons_zero, List.getElem_cons_succ]
          go_simp
          refine (pair_c z y w11 dz dy (ht.below V11.below)).mono ?_; rintro e w12 ⟨rfl, hb_⟩
          dsimp only
          have V12 := V11.keep hb_
          refine hK.out _ _ (Has.keep hS hb_) (fun hS => ?_)
          clear hb_ V11
          refine wpAnyH_ready (rs := [7]) (by kernel_rfl) (by simp) ?_
          refine AllReadyH.cons rfl (fun K hK => ?_) AllReadyH.nil
          rw [if_pos (by rfl)]
          simp only [List.getElem_toArray, List.getElem_cons_zero, List.getElem_cons_succ]
          refine wp_store_V 64 _ _ rfl g2 64 noDig (pairD z x) rfl rfl (Vars.at_ V12 (i := 1) rfl) dig_no (shaD_dig _) sizeD ?_
          intro w13 hk_ hg_ hs_
          have V13 := Vars.set V12 1 (g := g2) rfl hk_ hg_ (shaD_dig _)
          simp only [List.set_cons_zero, List.set_cons_succ] at V13
          clear hk_ hg_ hs_ V12
          refine hK.out _ _ (Has.sub V13.has (by intro p hp; simp only [List.mem_cons, List.not_mem_nil, or_false] at hp ⊢; rcases hp with rfl | rfl | rfl <;> simp)) (fun hS => ?_)
          refine wpAnyH_ready (rs := [8]) (by kernel_rfl) (by simp) ?_
          refine AllReadyH.cons rfl (fun K hK => ?_) AllReadyH.nil
          rw [if_pos (by rfl)]
          simp only [List.getElem_toArray, List.getElem_cons_zero, List.getElem_cons_succ]
          refine wp_store_V 64 _ _ rfl g3 64 noDig (pairD z y) rfl rfl (Vars.at_ V13 (i := 2) rfl) dig_no (shaD_dig _) sizeD ?_
          intro w14 hk_ hg_ hs_
          have V14 := Vars.set V13 2 (g := g3) rfl hk_ hg_ (shaD_dig _)
          simp only [List.set_cons_zero, List.set_cons_succ] at V14
          clear hk_ hg_ hs_ V13
          refine hK.out _ _ (Has.sub V14.has (by intro p hp; simp only [List.mem_cons, List.not_mem_nil, or_false] at hp ⊢; rcases hp with rfl | rfl | rfl <;> simp)) (fun hS => ?_)
          refine wpAnyH_ready (rs := [9]) (by kernel_rfl) (by simp) ?_
          refine AllReadyH.cons rfl (fun K hK => ?_) AllReadyH.nil
          rw [if_pos (by rfl)]
          simp only [List.getElem_toArray, List.getElem_cons_zero, List.getElem_cons_succ]
          go_simp
          refine hK.out _ _ hS (fun hS => ?_)
          refine wpAnyH_done (by kernel_rfl) ?_ _
          clear hS
          go_wp2_with fail
          exact bodyPost_ret (v := .tuple #[dval (pairD z x), dval (pairD z y), .bool ok]) (results_dig2_tmp (p := 10) (q := 11) (u := 12) rfl rfl rfl (Vars.at_ V14 (i := 1) rfl) (Vars.at_ V14 (i := 2) rfl) (shaD_dig _) (shaD_dig _) Tryd.underlying64 rfl sizeD) rfl (BothPost.of V14 (shaD_dig _) (shaD_dig _) (by rw [bothH_any hh (h' := j + 1) hnk, bothH_right (by rw [← HK.out]; omega) hsame (by rw [← HK.out]; omega), ← HK.out, ER.out]; cases ok <;> rfl))
end Go.Proofs.YtmbifokiebjmmaaDoor
