import Derived.Test.YtlolkighnnedfaaDoorZ22
import Derived.Test.YtlolkighnnedfaaDoorZ6
/- package ed: base, Base, Order by their contracts. (Printed by gen_edpf.py.) -/
set_option linter.unusedVariables false
set_option linter.unusedSimpArgs false
namespace Go.Sg
open Go.RowKit
/-- The base point's table: two rows of eight limbs. -/
structure BaseT (w : World) (g : Nat) : Prop where
  x : TabAt w g limbX
  y : w.rangeAt g 8 (limbY.map (Value.int .u32))
theorem BaseT.below {w w' : World} {g : Nat} (h : BaseT w g) (hb : Below w.heap.size w w') : BaseT w' g := ⟨h.x.below hb, fun j v hv => by
  rw [World.cell?_of_block (w := w) (hb.block g h.x.lt)]
  exact h.y j v hv⟩
end Go.Sg
namespace Go.Proofs.YtlolkighnnedfaaDoor
open Go.RowKit Go.Sg
def LimbPost (L : List Int) (W : World) (e : Ending) (w' : World) : Prop := ∃ g, e = .returned (.slice (some ⟨g, 0, none⟩) 8 8) ∧ W.heap.size ≤ g ∧ Rw w' g 95 (L.map (Value.int .u32)) ∧ Below W.heap.size W w'
theorem limbs_r (L : List Int) (hL : L.length = 8) (w : World) : Calls Tryd.prog 97 #[.agg (L.map (Value.int .u32)).toArray] w (LimbPost L w) := by
  have ha := fun W b => all_array (P := Tryd.prog) W 95 36 8 Tryd.underlying95 size32r b (by omega)
  clear hL
  go_enter Tryd.func97, Tryd.ntmps97
  go_wp2_with (refine wpList_box_agg rfl 95 _ rfl (L.map (Value.int .u32)) rfl ?_)
  intro w1 hk hb
  go_wp2_with fail
  go_ret
  exact ⟨_, rfl, Nat.le_refl _, hk, hb⟩
theorem order_r (w : World) (t : TabAt w 2 limbL) : Calls Tryd.prog 62 #[] w (LimbPost limbL w) := by
  have r := t.rng
  have lc := limbs_r limbL rfl w
  go_enter Tryd.func62, Tryd.ntmps62
  go_wp2_with (refine wpList_load_mid rfl 95 _ rfl 2 0 rfl (limbL.map (Value.int .u32)) _ r Tryd.underlying95 rfl sizeA8 ?_)
  go_wp2_with fail
  refine lc.mono ?_; rintro e w1 ⟨g, rfl, hg, hk, hb⟩
  go_wp2_with fail
  go_ret
  exact ⟨_, rfl, hg, hk, hb⟩
theorem Order_c (w : World) (t : TabAt w 2 limbL) : Calls Tryd.prog 18 #[] w (LimbPost limbL w) := by
  have oc := order_r w t
  go_enter Tryd.func18, Tryd.ntmps18
  go_wp2_with fail
  refine oc.mono ?_; rintro e w1 ⟨g, rfl, hg, hk, hb⟩
  go_wp2_with fail
  go_ret
  exact ⟨_, rfl, hg, hk, hb⟩
/-- The base point in rows of its own. -/
def BaseRes (B : Nat) (w : World) (v : Value) : Prop := ∃ gx gy, v = .agg #[.slice (some ⟨gx, 0, none⟩) 8 8, .slice (some ⟨gy, 0, none⟩) 8 8, .bool false] ∧ B ≤ gx ∧ B ≤ gy ∧ gx ≠ gy ∧
  Rw w gx 95 (limbX.map (Value.int .u32)) ∧ Rw w gy 95 (limbY.map (Value.int .u32))
def BasePost (W : World) (e : Ending) (w' : World) : Prop := ∃ v, e = .returned v ∧ BaseRes W.heap.size w' v ∧ Below W.heap.size W w'
theorem BaseRes.below {B : Nat} {w w' : World} {v : Value} (h : BaseRes B w v) (hb : Below w.heap.size w w') : BaseRes B w' v := by
  obtain ⟨gx, gy, e, h1, h2, h3, h4, h5⟩ := h
  exact ⟨gx, gy, e, h1, h2, h3, h4.keep hb, h5.keep hb⟩
theorem BaseRes.mono {B B' : Nat} {w : World} {v : Value} (h : BaseRes B w v) (hB : B' ≤ B) : BaseRes B' w v := by
  obtain ⟨gx, gy, e, h1, h2, h3, h4, h5⟩ := h
  exact ⟨gx, gy, e, Nat.le_trans hB h1, Nat.le_trans hB h2, h3, h4, h5⟩
theorem BaseRes.at_ {B : Nat} {w : World} {v : Value} (h : BaseRes B w v) : PtAt w v eB := by
  obtain ⟨gx, gy, e, h1, h2, h3, h4, h5⟩ := h
  exact ⟨_, _, e, CanAt.rw8 h4 lim8_X, CanAt.rw8 h5 lim8_Y⟩
theorem BaseRes.past {g : Nat} {w w' : World} {v : Value} (h : BaseRes (g + 1) w v) (hg : w.grownBy w' (some g)) : BaseRes (g + 1) w' v := by
  obtain ⟨gx, gy, e, h1, h2, h3, h4, h5⟩ := h
  exact ⟨gx, gy, e, h1, h2, h3, h4.grown hg (fun e => by have := Option.some.inj e; omega), h5.grown hg (fun e => by have := Option.some.inj e; omega)⟩

set_option maxHeartbeats 4000000 in
set_option maxRecDepth 20000 in
theorem base_c (w : World) (tB : BaseT w 1) :
    Calls Tryd.prog 53 #[] w (BasePost w) := by
  go_enter Tryd.func53, Tryd.ntmps53
  have hB := Below.refl w.heap.size w
  go_wp2_with (refine wpList_alloc_agg rfl 29 rfl [(.slice none 0 0), (.slice none 0 0), (.bool false)] 3 (by kernel_rfl) ?_)
  intro w1 hk0 hb
  have hz_ := hB.size
  replace hB := hB.trans (hb.mono hB.size)
  clear hb
  obtain ⟨g0, hg_⟩ : ∃ g, g = w.heap.size := ⟨_, rfl⟩
  rw [← hg_] at hk0 ⊢
  have HG0 : Hid (w.heap.size ≤ g0) := Lib.hid (by rw [hg_]; exact hz_)
  clear hg_ hz_
  go_wp2_with fail
  refine wp_region_held_drew (S := fun W_ => BaseT W_ 1) (by kernel_rfl) (tB.below (below_drewN hB 1)) (fun hS => ?_)
  have hb := below_drewN (Below.refl w1.heap.size w1) 1
  obtain ⟨w2, hw_⟩ : ∃ x, x = World.drew w1 := ⟨_, rfl⟩
  rw [show World.drewN w1 1 = w2 from hw_.symm] at hb
  rw [← hw_] at hS ⊢
  clear hw_
  replace hB := hB.trans (hb.mono hB.size)
  replace hk0 := hk0.keep hb
  clear hb
  refine wpAnyH_take (i := 0) (v := ?_) rfl (by kernel_rfl) (by kernel_rfl) (by kernel_rfl) (fun _ _ _ h => h) (Or.inl ⟨by rfl, ?_⟩) hS ?_
  rotate_left
  · intro w _; go_simp; try with_reducible rfl
  simp only [List.getElem_toArray, List.getElem_cons_zero, List.getElem_cons_succ, Act.put, List.setIfInBounds_toArray, List.set_cons_zero, List.set_cons_succ]
  refine wpAnyH_take (i := 1) (v := .agg (limbX.map (Value.int .u32)).toArray) rfl (by kernel_rfl) (by kernel_rfl) (by kernel_rfl) (fun _ _ _ h => h) (yieldsIf_load_mid (by rfl) 95 _ rfl 1 0 rfl (limbX.map (Value.int .u32)) _ (fun W_ hW_ => hW_.x.rng) Tryd.underlying95 rfl sizeA8) hS ?_
  simp only [List.getElem_toArray, List.getElem_cons_zero, List.getElem_cons_succ, Act.put, List.setIfInBounds_toArray, List.set_cons_zero, List.set_cons_succ]
  refine wpAnyH_take (i := 3) (v := ?_) rfl (by kernel_rfl) (by kernel_rfl) (by kernel_rfl) (fun _ _ _ h => h) (Or.inl ⟨by rfl, ?_⟩) hS ?_
  rotate_left
  · intro w _; go_simp; try with_reducible rfl
  simp only [List.getElem_toArray, List.getElem_cons_zero, List.getElem_cons_succ, Act.put, List.setIfInBounds_toArray, List.set_cons_zero, List.set_cons_succ]
  refine wpAnyH_take (i := 4) (v := .agg (limbY.map (Value.int .u32)).toArray) rfl (by kernel_rfl) (by kernel_rfl) (by kernel_rfl) (fun _ _ _ h => h) (yieldsIf_load_mid (by rfl) 95 _ rfl 1 8 rfl (limbY.map (Value.int .u32)) _ (fun W_ hW_ => hW_.y) Tryd.underlying95 rfl sizeA8) hS ?_
  simp only [List.getElem_toArray, List.getElem_cons_zero, List.getElem_cons_succ, Act.put, List.setIfInBounds_toArray, List.set_cons_zero, List.set_cons_succ]
  refine wpAnyH_ready (rs := [2]) (by kernel_rfl) (by simp) ?_
  refine AllReadyH.cons rfl (fun K hK => ?_) AllReadyH.nil
  rw [if_pos (by rfl)]
  simp only [List.getElem_toArray, List.getElem_cons_zero, List.getElem_cons_succ]
  go_simp
  refine (limbs_r limbX rfl w2).mono ?_; rintro e_ w3 ⟨q3, rfl, hq3, kq3, hb⟩
  dsimp only
  have lt3 := hk0.lt
  replace hB := hB.trans (hb.mono hB.size)
  replace hk0 := hk0.keep hb
  clear hb
  refine hK.out _ _ (tB.below hB) (fun hS => ?_)
  refine wpAnyH_ready (rs := [5]) (by kernel_rfl) (by simp) ?_
  refine AllReadyH.cons rfl (fun K hK => ?_) AllReadyH.nil
  rw [if_pos (by rfl)]
  simp only [List.getElem_toArray, List.getElem_cons_zero, List.getElem_cons_succ]
  go_simp
  refine (limbs_r limbY rfl w3).mono ?_; rintro e_ w4 ⟨q6, rfl, hq6, kq6, hb⟩
  dsimp only
  have lt6 := hk0.lt
  have lt3_6 := kq3.lt
  replace hB := hB.trans (hb.mono hB.size)
  replace hk0 := hk0.keep hb
  replace kq3 := kq3.keep hb
  clear hb
  refine hK.out _ _ (tB.below hB) (fun hS => ?_)
  refine wpAnyH_ready (rs := [6]) (by kernel_rfl) (by simp) ?_
  refine AllReadyH.cons rfl (fun K hK => ?_) AllReadyH.nil
  rw [if_pos (by rfl)]
  simp only [List.getElem_toArray, List.getElem_cons_zero, List.getElem_cons_succ]
  go_simp
  refine hK.out _ _ (tB.below hB) (fun hS => ?_)
  refine wpAnyH_ready (rs := [7]) (by kernel_rfl) (by simp) ?_
  refine AllReadyH.cons rfl (fun K hK => ?_) AllReadyH.nil
  rw [if_pos (by rfl)]
  simp only [List.getElem_toArray, List.getElem_cons_zero, List.getElem_cons_succ]
  refine wp_store_agg 29 _ _ rfl g0 29 [(.slice none 0 0), (.slice none 0 0), (.bool false)] [.slice (some ⟨q3, 0, none⟩) 8 8, .slice (some ⟨q6, 0, none⟩) 8 8, .bool false] rfl rfl hk0 size_pt (by intro v_ hv_; simp only [List.mem_cons, List.not_mem_nil, or_false] at hv_; rcases hv_ with rfl | rfl | rfl <;> rfl) rfl ?_
  intro w9 hn hg
  replace kq3 := kq3.grown hg (fun e_ => by have := Option.some.inj e_; omega)
  replace kq6 := kq6.grown hg (fun e_ => by have := Option.some.inj e_; omega)
  replace hB := hB.grown hg hB.size (by intro k_ hk_; cases hk_; exact HG0.out)
  refine hK.out _ _ (tB.below hB) (fun hS => ?_)
  refine wpAnyH_done (by kernel_rfl) ?_ _
  clear hS
  go_wp2_with fail
  refine bodyPost_ret (results_agg rfl rfl hn Tryd.underlying29 rfl size_pt) rfl ?_
  exact ⟨_, rfl, ⟨q3, q6, rfl, by have := HG0.out; omega, by have := HG0.out; omega, by omega, kq3, kq6⟩, hB⟩
set_option maxHeartbeats 4000000 in
set_option maxRecDepth 20000 in
theorem Base_c (w : World) (tB : BaseT w 1) :
    Calls Tryd.prog 14 #[] w (BasePost w) := by
  go_enter Tryd.func14, Tryd.ntmps14
  have hB := Below.refl w.heap.size w
  go_wp2_with (refine wpList_alloc_agg rfl 29 rfl [(.slice none 0 0), (.slice none 0 0), (.bool false)] 3 (by kernel_rfl) ?_)
  intro w1 hk0 hb
  have hz_ := hB.size
  replace hB := hB.trans (hb.mono hB.size)
  clear hb
  obtain ⟨g0, hg_⟩ : ∃ g, g = w.heap.size := ⟨_, rfl⟩
  rw [← hg_] at hk0 ⊢
  have HG0 : Hid (w.heap.size ≤ g0) := Lib.hid (by rw [hg_]; exact hz_)
  clear hg_ hz_
  go_wp2_with fail
  have lt0 := hk0.lt
  refine (base_c w1 (tB.below hB)).mono ?_; rintro e_ w2 ⟨v1, rfl, hr, hb⟩
  replace hk0 := hk0.keep hb
  replace hB := hB.trans (hb.mono hB.size)
  replace hr := hr.mono (Nat.succ_le_of_lt lt0)
  clear hb lt0
  obtain ⟨gx, gy, rfl, h1, h2, h3, h4, h5⟩ := hr
  go_wp2_with (refine wpList_store_agg rfl 29 _ _ rfl g0 29 [(.slice none 0 0), (.slice none 0 0), (.bool false)] [.slice (some ⟨gx, 0, none⟩) 8 8, .slice (some ⟨gy, 0, none⟩) 8 8, .bool false] rfl rfl hk0 size_pt (by intro v_ hv_; simp only [List.mem_cons, List.not_mem_nil, or_false] at hv_; rcases hv_ with rfl | rfl | rfl <;> rfl) rfl ?_)
  intro w9 hn hg
  replace hB := hB.grown hg hB.size (by intro k_ hk_; cases hk_; exact HG0.out)
  have hr : BaseRes (g0 + 1) w9 _ := BaseRes.past ⟨gx, gy, rfl, h1, h2, h3, h4, h5⟩ hg
  go_wp2_with fail
  refine bodyPost_ret (results_agg rfl rfl hn Tryd.underlying29 rfl size_pt) rfl ?_
  exact ⟨_, rfl, hr.mono (Nat.le_succ_of_le HG0.out), hB⟩
end Go.Proofs.YtlolkighnnedfaaDoor
/- signetlaw13: sameNat, wide, kept, by their contracts. (Printed by gen_edla.py.) -/
set_option linter.unusedVariables false
set_option linter.unusedSimpArgs false
namespace Go.Sg
open Go.RowKit
/-- The marks behind a wide copy. -/
def mw4 : List Int := List.replicate 4 2779096485
theorem mw4_len : mw4.length = 4 := rfl
theorem mw4_u : U32 mw4 := .of_mem (by omega) (by intro x hx; have := List.eq_of_mem_replicate hx; omega)
theorem wide_sl {w : World} {g : Nat} {E : TypeId} {xs : List Int} (h : Blk w g .u32 E (xs ++ mw4)) (hl : xs.length ≤ 17592186044415) : Sl .u32 w (some ⟨g, 0, none⟩) (xs.length + 4) xs := by
  have := h.sl xs.length (xs.length + 4) (by omega) (by omega)
  rwa [List.take_left] at this
theorem cutH {P : Program} (w : World) (T E : TypeId) (hu : P.underlying T = some (.slice E)) (hs : (P.info? E).map (·.size) = some 1) (a : Option Addr) (n cap h : Nat) (h1 : h ≤ cap) :
    (Instr.sliceAt T (.slice a n cap) none (some (.int .i64 (h : Int))) none).run P w = .ok (.slice a h cap) w := run_to w T E hu hs a n cap h h1 h rfl
end Go.Sg
namespace Go.Proofs.YtlolkighnnedfaaDoor
open Go.RowKit Go.Sg
set_option maxHeartbeats 1000000 in
theorem sameNat_c (a a' : Option Addr) (cap cap' : Nat) (xs ys : List Int) (w : World) (hx : Sl .u32 w a cap xs) (hy : Sl .u32 w a' cap' ys) :
    Calls Tryd.prog 19 #[.slice a xs.length cap, .slice a' ys.length cap'] w (BoolPost (decide (xs = ys)) w) := by
  have hxm := Nat.le_trans hx.le hx.max
  have hym := Nat.le_trans hy.le hy.max
  by_cases hl : xs.length = ys.length
  · obtain ⟨n, hn⟩ : ∃ n, n = ys.length := ⟨_, rfl⟩
    have HN := Lib.hid hn
    have HX := Lib.hid (show xs.length = n by omega)
    rw [hl]
    rw [← hn] at hym ⊢
    clear hl hn hxm
    have hne : ((n : Int) != n) = false := by simp
    go_enter Tryd.func19, Tryd.ntmps19
    go_wp2_with fail
    go_loopw [5] (fun t wr => ∃ i : Nat, i ≤ n ∧ t = .int .i64 (i : Int) ∧ (∀ j, j < i → nth xs j = nth ys j) ∧ Dr w wr)
      (fun t _ => n - (intOf t).toNat)
    case atStart => exact ⟨0, by omega, rfl, fun j hj => by omega, .refl _⟩
    case round =>
      obtain ⟨i, hi, rfl, hall, nd, rfl⟩ := hrel
      have HA := Lib.hid hall
      clear hall
      by_cases hlt : i < n
      · obtain ⟨b, off, rfl, hcc⟩ := hx.cells (by have := HX.out; omega)
        obtain ⟨b', off', rfl, hcc'⟩ := hy.cells (by have := HN.out; omega)
        have c1 := hcc i (by have := HX.out; omega)
        have c2 := hcc' i (by have := HN.out; omega)
        clear hcc hcc'
        by_cases he : nth xs i = nth ys i
        · have HE := Lib.hid he
          have g1 : (nth xs i != nth ys i) = false := by rw [he]; simp
          clear he
          go_wp2_with fail
          go_quiet (fail)
          go_wp2_with fail
          go_roundw
          case rel => exact ⟨i + 1, by omega, by go_num, fun j hj => by
            by_cases h : j = i
            · rw [h]; exact HE.out
            · exact HA.out j (by omega), (by repeat (first | exact Dr.refl _ | apply Dr.drewN))⟩
          case measure => simp [intOf]; omega
        · have HE := Lib.hid (show decide (xs = ys) = false from decide_eq_false fun h => he (by rw [h]))
          have g1 : (nth xs i != nth ys i) = true := by simpa using he
          clear he
          go_wp2_with fail
          go_quiet (fail)
          go_wp2_with fail
          go_ret
          exact ⟨by rw [HE.out]; rfl, (by repeat (first | exact Dr.refl _ | apply Dr.drewN))⟩
      · have HE := Lib.hid (show decide (xs = ys) = true from decide_eq_true (ext_nth _ _ (by rw [HX.out, HN.out]) fun j hj => HA.out j (by have := HX.out; omega)))
        go_wp2_with fail
        go_ret
        exact ⟨by rw [HE.out]; rfl, nd, rfl⟩
  · have HE := Lib.hid (show decide (xs = ys) = false from decide_eq_false fun h => hl (by rw [h]))
    have hne : ((xs.length : Int) != ys.length) = true := by simp; omega
    clear hl
    go_enter Tryd.func19, Tryd.ntmps19
    go_wp2_with fail
    go_ret
    exact ⟨by rw [HE.out]; rfl, .refl _⟩


theorem sameNat_can {v v' : Value} {n n' : Nat} {W : World} (h : CanAt W v n) (h' : CanAt W v' n') : Calls Tryd.prog 19 #[v, v'] W (BoolPost (decide (n = n')) W) := by
  obtain ⟨a, c, zs, rfl, s, cz, u, rfl, hl⟩ := h
  obtain ⟨a', c', zs', rfl, s', cz', u', rfl, hl'⟩ := h'
  have e : decide (val zs = val zs') = decide (zs = zs') := by
    rw [decide_eq_decide]
    exact ⟨fun h => cz.ext cz' u u' h, fun h => by rw [h]⟩
  rw [e]
  exact sameNat_c _ _ _ _ _ _ _ s s'
def WidePost (xs : List Int) (w : World) (e : Ending) (w' : World) : Prop := ∃ g, e = .returned (.slice (some ⟨g, 0, none⟩) xs.length (xs.length + 4)) ∧ w.heap.size ≤ g ∧ Blk w' g .u32 36 (xs ++ mw4) ∧ Below w.heap.size w w'

set_option maxHeartbeats 4000000 in
set_option maxRecDepth 20000 in
theorem wide_c (a : Option Addr) (cap : Nat) (xs : List Int) (w : World) (hx : Sl .u32 w a cap xs) (hl : xs.length ≤ 17592186044415) :
    Calls Tryd.prog 20 #[.slice a xs.length cap] w (WidePost xs w) := by
  obtain ⟨n, hn⟩ : ∃ n, n = xs.length := ⟨_, rfl⟩
  have HN := Lib.hid hn
  rw [← hn] at hl ⊢
  clear hn
  go_enter Tryd.func20, Tryd.ntmps20
  go_wp2_with (at_make; refine wpList_make_blk _ rfl _ _ 27 rfl 36 .u32 4 Tryd.underlying27 info32e (n + 4) _ _ rfl rfl (by omega) (by omega) (by omega) (by omega) ?_)
  intro w1 hk1 hs1 hb1
  have hx1 := hx.below hb1
  obtain ⟨G, hG⟩ : ∃ G, G = w.heap.size := ⟨_, rfl⟩
  rw [← hG] at hk1 ⊢
  have hge : w.heap.size ≤ G := by omega
  clear hG hx hs1
  go_wp2_with (with_reducible refine wpList_copy_blk rfl _ _ 27 27 rfl 36 Tryd.underlying27 size32r _ G 0 _ _ _ _ _ rfl rfl .u32 _ xs hk1 hx1.cells HN.out.symm (fun _ _ => rfl) (by rw [List.length_replicate]; omega) ?_)
  intro w2 hk2 hg2 hs2
  have hb2 : Below w.heap.size w w2 := hb1.grown hg2 (by have := hb1.size; omega) (by simp; omega)
  have hk3 : Blk w2 G .u32 36 (xs ++ (List.replicate 0 2779096485 ++ List.replicate (4 - 0) 0)) := by
    have e : xs.take (n + 4) ++ List.replicate (n + 4 - n) (0 : Int) = xs ++ (List.replicate 0 2779096485 ++ List.replicate (4 - 0) 0) := by
      rw [List.take_of_length_le (by rw [← HN.out]; omega), show n + 4 - n = 4 by omega]
      rfl
    have h2 := hk2
    rw [← e]
    simpa [Nat.min_eq_left (show n ≤ n + 4 by omega)] using h2
  clear hk1 hk2 hg2 hb1 hs2 hx1
  go_wp2_with fail
  go_loopw [4] (fun t wr => ∃ j : Nat, j ≤ 4 ∧ t = .int .i64 ((n + j : Nat) : Int) ∧ Blk wr G .u32 36 (xs ++ (List.replicate j 2779096485 ++ List.replicate (4 - j) 0)) ∧ Below w.heap.size w wr)
    (fun t _ => n + 4 - (intOf t).toNat)
  case atStart => exact ⟨0, by omega, by rw [Nat.add_zero], hk3, hb2⟩
  case round =>
    clear hk3 hb2
    obtain ⟨j, hj, rfl, hk, hb⟩ := hrel
    obtain ⟨i, hi⟩ : ∃ i, i = n + j := ⟨_, rfl⟩
    rw [← hi]
    have HI := Lib.hid hi
    by_cases hlt : j < 4
    · have ll : (xs ++ (List.replicate j (2779096485 : Int) ++ List.replicate (4 - j) 0)).length = n + 4 := by simp [HN.out]; omega
      have c0 := hk.cell i (by rw [ll]; omega)
      have f0 := hk.free i
      have hs := hk.set i 2779096485
      have fin : Hid ((xs ++ (List.replicate j 2779096485 ++ List.replicate (4 - j) 0)).set i 2779096485 = xs ++ (List.replicate (j + 1) 2779096485 ++ List.replicate (4 - (j + 1)) 0)) := Lib.hid (by
        rw [List.set_append_right _ _ (by rw [← HN.out]; omega), ← HN.out, List.set_append_right _ _ (by rw [List.length_replicate]; omega), List.length_replicate, show i - n - j = 0 by omega,
          show 4 - j = (4 - (j + 1)) + 1 by omega, List.replicate_succ (n := 4 - (j + 1)), List.set_cons_zero, List.replicate_succ' (n := j), List.append_assoc]
        rfl)
      rw [fin.out] at hs
      have hb' := hb.setCell (p := ⟨G, i, none⟩) hge (.int .u32 2779096485)
      have hin : (i : Int) < (n : Int) + 4 := by omega
      have hin2 : i < n + 4 := by omega
      have hd1 : decide ((i : Int) < (n : Int) + 4) = true := decide_eq_true hin
      clear hk hb ll hi
      go_wp2_with fail
      go_roundw
      case rel => exact ⟨j + 1, by omega, by have := HI.out; go_num, hs, hb'⟩
      case measure => have := HI.out; simp [intOf]; omega
    · obtain rfl : j = 4 := by omega
      have hkf : Blk wr G .u32 36 (xs ++ mw4) := by simpa [mw4] using hk
      have hin : ¬ (i : Int) < (n : Int) + 4 := by omega
      have hin2 : ¬ i < n + 4 := by omega
      have hd1 : decide ((i : Int) < (n : Int) + 4) = false := decide_eq_false hin
      have hcut := fun W => cutH (P := Tryd.prog) W 27 36 Tryd.underlying27 size32r (some ⟨G, 0, none⟩) (n + 4) (n + 4) n (by omega)
      clear hk hi
      go_wp2_with fail
      go_ret
      exact ⟨G, by rw [← HN.out]; first | done | rfl, hge, hkf, hb⟩

set_option maxHeartbeats 4000000 in
set_option maxRecDepth 20000 in
theorem kept_c (g : Nat) (a : Option Addr) (cap' : Nat) (xs : List Int) (w : World) (hk : Blk w g .u32 36 (xs ++ mw4)) (hx : Sl .u32 w a cap' xs) (hl : xs.length ≤ 17592186044415) :
    Calls Tryd.prog 34 #[.slice (some ⟨g, 0, none⟩) xs.length (xs.length + 4), .slice a xs.length cap'] w (fun e w' => e = .returned (.bool true) ∧ Below w.heap.size w w') := by
  have cm := sameNat_c _ _ _ _ _ _ w (wide_sl hk hl) hx
  rw [show decide (xs = xs) = true from decide_eq_true rfl] at cm
  have cells : ∀ j, j < 4 → w.cell? ⟨g, xs.length + j, none⟩ = some (.int .u32 2779096485) := fun j hj => by
    rw [hk.cell (xs.length + j) (by rw [List.length_append, mw4_len]; omega), nth_append_right]
    unfold mw4
    rw [nth_replicate _ _ _ hj]
  have hcut := fun W => cutH (P := Tryd.prog) W 27 36 Tryd.underlying27 size32r (some ⟨g, 0, none⟩) xs.length (xs.length + 4) (xs.length + 4) (by omega)
  obtain ⟨n, hn⟩ : ∃ n, n = xs.length := ⟨_, rfl⟩
  rw [← hn] at cm hl hcut ⊢
  have e9 : ((n + 4 : Nat) : Int) = (n : Int) + 4 := by omega
  rw [e9] at hcut
  have CELLS := Lib.hid cells
  have HN := Lib.hid hn
  clear cells hn e9
  go_enter Tryd.func34, Tryd.ntmps34
  go_wp2_with fail
  go_loopw [6] (fun t wr => ∃ j : Nat, j ≤ 4 ∧ t = .int .i64 ((n + j : Nat) : Int) ∧ wr = w) (fun t _ => n + 4 - (intOf t).toNat)
  case atStart => exact ⟨0, by omega, by rw [Nat.add_zero], rfl⟩
  case round =>
    obtain ⟨j, hj, rfl, hww⟩ := hrel
    subst hww
    obtain ⟨i, hi⟩ : ∃ i, i = n + j := ⟨_, rfl⟩
    rw [← hi]
    have HI := Lib.hid hi
    by_cases hlt : j < 4
    · have c0 := CELLS.out j hlt
      rw [← HN.out, ← hi] at c0
      have hin : (i : Int) < (n : Int) + 4 := by omega
      have hin2 : i < n + 4 := by omega
      have hd1 : decide ((i : Int) < (n : Int) + 4) = true := decide_eq_true hin
      clear hi cm hcut
      go_wp2_with fail
      go_roundw
      case rel => exact ⟨j + 1, by omega, by have := HI.out; go_num, by trivial⟩
      case measure => have := HI.out; simp [intOf]; omega
    · obtain rfl : j = 4 := by omega
      have hin : ¬ (i : Int) < (n : Int) + 4 := by omega
      have hin2 : ¬ i < n + 4 := by omega
      have hd1 : decide ((i : Int) < (n : Int) + 4) = false := decide_eq_false hin
      clear hi
      go_wp2_with fail
      refine cm.mono ?_; rintro e w1 ⟨rfl, hb⟩
      go_wp2_with fail
      go_ret
      exact ⟨rfl, hb.b⟩

end Go.Proofs.YtlolkighnnedfaaDoor
