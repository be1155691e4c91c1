import Derived.Test.YtlolkighnnedfaaDoorZ23
import Derived.Test.YtlolkighnnedfaaDoorZ7
import Derived.Test.YtlolkighnnedfaaDoorZ16
import Derived.Test.YtlolkighnnedfaaDoorZ17
/- package ed: base, Base, Order by their contracts. (Printed by gen_edpf.py.) -/
set_option linter.unusedVariables false
set_option linter.unusedSimpArgs false
namespace Go.Sg
open Go.RowKit
/-- The base point's table: two rows of eight limbs. -/
structure BaseT (w : World) (g : Nat) : Prop where
  x : TabAt w g limbX
  y : w.rangeAt g 8 (limbY.map (Value.int .u32))
theorem BaseT.below {w w' : World} {g : Nat} (h : BaseT w g) (hb : Below w.heap.size w w') : BaseT w' g := ⟨h.x.below hb, fun j v hv => by
  rw [World.cell?_of_block (w := w) (hb.block g h.x.lt)]
  exact h.y j v hv⟩
end Go.Sg
namespace Go.Proofs.YtlolkighnnedfaaDoor
open Go.RowKit Go.Sg
def LimbPost (L : List Int) (W : World) (e : Ending) (w' : World) : Prop := ∃ g, e = .returned (.slice (some ⟨g, 0, none⟩) 8 8) ∧ W.heap.size ≤ g ∧ Rw w' g 95 (L.map (Value.int .u32)) ∧ Below W.heap.size W w'
theorem limbs_r (L : List Int) (hL : L.length = 8) (w : World) : Calls Tryd.prog 97 #[.agg (L.map (Value.int .u32)).toArray] w (LimbPost L w) := by
  have ha := fun W b => all_array (P := Tryd.prog) W 95 36 8 Tryd.underlying95 size32r b (by omega)
  clear hL
  go_enter Tryd.func97, Tryd.ntmps97
  go_wp2_with (refine wpList_box_agg rfl 95 _ rfl (L.map (Value.int .u32)) rfl ?_)
  intro w1 hk hb
  go_wp2_with fail
  go_ret
  exact ⟨_, rfl, Nat.le_refl _, hk, hb⟩
theorem order_r (w : World) (t : TabAt w 2 limbL) : Calls Tryd.prog 62 #[] w (LimbPost limbL w) := by
  have r := t.rng
  have lc := limbs_r limbL rfl w
  go_enter Tryd.func62, Tryd.ntmps62
  go_wp2_with (refine wpList_load_mid rfl 95 _ rfl 2 0 rfl (limbL.map (Value.int .u32)) _ r Tryd.underlying95 rfl sizeA8 ?_)
  go_wp2_with fail
  refine lc.mono ?_; rintro e w1 ⟨g, rfl, hg, hk, hb⟩
  go_wp2_with fail
  go_ret
  exact ⟨_, rfl, hg, hk, hb⟩
theorem Order_c (w : World) (t : TabAt w 2 limbL) : Calls Tryd.prog 18 #[] w (LimbPost limbL w) := by
  have oc := order_r w t
  go_enter Tryd.func18, Tryd.ntmps18
  go_wp2_with fail
  refine oc.mono ?_; rintro e w1 ⟨g, rfl, hg, hk, hb⟩
  go_wp2_with fail
  go_ret
  exact ⟨_, rfl, hg, hk, hb⟩
/-- The base point in rows of its own. -/
def BaseRes (B : Nat) (w : World) (v : Value) : Prop := ∃ gx gy, v = .agg #[.slice (some ⟨gx, 0, none⟩) 8 8, .slice (some ⟨gy, 0, none⟩) 8 8, .bool false] ∧ B ≤ gx ∧ B ≤ gy ∧ gx ≠ gy ∧
  Rw w gx 95 (limbX.map (Value.int .u32)) ∧ Rw w gy 95 (limbY.map (Value.int .u32))
def BasePost (W : World) (e : Ending) (w' : World) : Prop := ∃ v, e = .returned v ∧ BaseRes W.heap.size w' v ∧ Below W.heap.size W w'
theorem BaseRes.below {B : Nat} {w w' : World} {v : Value} (h : BaseRes B w v) (hb : Below w.heap.size w w') : BaseRes B w' v := by
  obtain ⟨gx, gy, e, h1, h2, h3, h4, h5⟩ := h
  exact ⟨gx, gy, e, h1, h2, h3, h4.keep hb, h5.keep hb⟩
theorem BaseRes.mono {B B' : Nat} {w : World} {v : Value} (h : BaseRes B w v) (hB : B' ≤ B) : BaseRes B' w v := by
  obtain ⟨gx, gy, e, h1, h2, h3, h4, h5⟩ := h
  exact ⟨gx, gy, e, Nat.le_trans hB h1, Nat.le_trans hB h2, h3, h4, h5⟩
theorem BaseRes.at_ {B : Nat} {w : World} {v : Value} (h : BaseRes B w v) : PtAt w v eB := by
  obtain ⟨gx, gy, e, h1, h2, h3, h4, h5⟩ := h
  exact ⟨_, _, e, CanAt.rw8 h4 lim8_X, CanAt.rw8 h5 lim8_Y⟩
theorem BaseRes.past {g : Nat} {w w' : World} {v : Value} (h : BaseRes (g + 1) w v) (hg : w.grownBy w' (some g)) : BaseRes (g + 1) w' v := by
  obtain ⟨gx, gy, e, h1, h2, h3, h4, h5⟩ := h
  exact ⟨gx, gy, e, h1, h2, h3, h4.grown hg (fun e => by have := Option.some.inj e; omega), h5.grown hg (fun e => by have := Option.some.inj e; omega)⟩

set_option maxHeartbeats 4000000 in
set_option maxRecDepth 20000 in
theorem base_c (w : World) (tB : BaseT w 1) :
    Calls Tryd.prog 53 #[] w (BasePost w) := by
  go_enter Tryd.func53, Tryd.ntmps53
  have hB := Below.refl w.heap.size w
  go_wp2_with (refine wpList_alloc_agg rfl 29 rfl [(.slice none 0 0), (.slice none 0 0), (.bool false)] 3 (by kernel_rfl) ?_)
  intro w1 hk0 hb
  have hz_ := hB.size
  replace hB := hB.trans (hb.mono hB.size)
  clear hb
  obtain ⟨g0, hg_⟩ : ∃ g, g = w.heap.size := ⟨_, rfl⟩
  rw [← hg_] at hk0 ⊢
  have HG0 : Hid (w.heap.size ≤ g0) := Lib.hid (by rw [hg_]; exact hz_)
  clear hg_ hz_
  go_wp2_with fail
  refine wp_region_held_drew (S := fun W_ => BaseT W_ 1) (by kernel_rfl) (tB.below (below_drewN hB 1)) (fun hS => ?_)
  have hb := below_drewN (Below.refl w1.heap.size w1) 1
  obtain ⟨w2, hw_⟩ : ∃ x, x = World.drew w1 := ⟨_, rfl⟩
  rw [show World.drewN w1 1 = w2 from hw_.symm] at hb
  rw [← hw_] at hS ⊢
  clear hw_
  replace hB := hB.trans (hb.mono hB.size)
  replace hk0 := hk0.keep hb
  clear hb
  refine wpAnyH_take (i := 0) (v := ?_) rfl (by kernel_rfl) (by kernel_rfl) (by kernel_rfl) (fun _ _ _ h => h) (Or.inl ⟨by rfl, ?_⟩) hS ?_
  rotate_left
  · intro w _; go_simp; try with_reducible rfl
  simp only [List.getElem_toArray, List.getElem_cons_zero, List.getElem_cons_succ, Act.put, List.setIfInBounds_toArray, List.set_cons_zero, List.set_cons_succ]
  refine wpAnyH_take (i := 1) (v := .agg (limbX.map (Value.int .u32)).toArray) rfl (by kernel_rfl) (by kernel_rfl) (by kernel_rfl) (fun _ _ _ h => h) (yieldsIf_load_mid (by rfl) 95 _ rfl 1 0 rfl (limbX.map (Value.int .u32)) _ (fun W_ hW_ => hW_.x.rng) Tryd.underlying95 rfl sizeA8) hS ?_
  simp only [List.getElem_toArray, List.getElem_cons_zero, List.getElem_cons_succ, Act.put, List.setIfInBounds_toArray, List.set_cons_zero, List.set_cons_succ]
  refine wpAnyH_take (i := 3) (v := ?_) rfl (by kernel_rfl) (by kernel_rfl) (by kernel_rfl) (fun _ _ _ h => h) (Or.inl ⟨by rfl, ?_⟩) hS ?_
  rotate_left
  · intro w _; go_simp; try with_reducible rfl
  simp only [List.getElem_toArray, List.getElem_cons_zero, List.getElem_cons_succ, Act.put, List.setIfInBounds_toArray, List.set_cons_zero, List.set_cons_succ]
  refine wpAnyH_take (i := 4) (v := .agg (limbY.map (Value.int .u32)).toArray) rfl (by kernel_rfl) (by kernel_rfl) (by kernel_rfl) (fun _ _ _ h => h) (yieldsIf_load_mid (by rfl) 95 _ rfl 1 8 rfl (limbY.map (Value.int .u32)) _ (fun W_ hW_ => hW_.y) Tryd.underlying95 rfl sizeA8) hS ?_
  simp only [List.getElem_toArray, List.getElem_cons_zero, List.getElem_cons_succ, Act.put, List.setIfInBounds_toArray, List.set_cons_zero, List.set_cons_succ]
  refine wpAnyH_ready (rs := [2]) (by kernel_rfl) (by simp) ?_
  refine AllReadyH.cons rfl (fun K hK => ?_) AllReadyH.nil
  rw [if_pos (by rfl)]
  simp only [List.getElem_toArray, List.getElem_cons_zero, List.getElem_cons_succ]
  go_simp
  refine (limbs_r limbX rfl w2).mono ?_; rintro e_ w3 ⟨q3, rfl, hq3, kq3, hb⟩
  dsimp only
  have lt3 := hk0.lt
  replace hB := hB.trans (hb.mono hB.size)
  replace hk0 := hk0.keep hb
  clear hb
  refine hK.out _ _ (tB.below hB) (fun hS => ?_)
  refine wpAnyH_ready (rs := [5]) (by kernel_rfl) (by simp) ?_
  refine AllReadyH.cons rfl (fun K hK => ?_) AllReadyH.nil
  rw [if_pos (by rfl)]
  simp only [List.getElem_toArray, List.getElem_cons_zero, List.getElem_cons_succ]
  go_simp
  refine (limbs_r limbY rfl w3).mono ?_; rintro e_ w4 ⟨q6, rfl, hq6, kq6, hb⟩
  dsimp only
  have lt6 := hk0.lt
  have lt3_6 := kq3.lt
  replace hB := hB.trans (hb.mono hB.size)
  replace hk0 := hk0.keep hb
  replace kq3 := kq3.keep hb
  clear hb
  refine hK.out _ _ (tB.below hB) (fun hS => ?_)
  refine wpAnyH_ready (rs := [6]) (by kernel_rfl) (by simp) ?_
  refine AllReadyH.cons rfl (fun K hK => ?_) AllReadyH.nil
  rw [if_pos (by rfl)]
  simp only [List.getElem_toArray, List.getElem_cons_zero, List.getElem_cons_succ]
  go_simp
  refine hK.out _ _ (tB.below hB) (fun hS => ?_)
  refine wpAnyH_ready (rs := [7]) (by kernel_rfl) (by simp) ?_
  refine AllReadyH.cons rfl (fun K hK => ?_) AllReadyH.nil
  rw [if_pos (by rfl)]
  simp only [List.getElem_toArray, List.getElem_cons_zero, List.getElem_cons_succ]
  refine wp_store_agg 29 _ _ rfl g0 29 [(.slice none 0 0), (.slice none 0 0), (.bool false)] [.slice (some ⟨q3, 0, none⟩) 8 8, .slice (some ⟨q6, 0, none⟩) 8 8, .bool false] rfl rfl hk0 size_pt (by intro v_ hv_; simp only [List.mem_cons, List.not_mem_nil, or_false] at hv_; rcases hv_ with rfl | rfl | rfl <;> rfl) rfl ?_
  intro w9 hn hg
  replace kq3 := kq3.grown hg (fun e_ => by have := Option.some.inj e_; omega)
  replace kq6 := kq6.grown hg (fun e_ => by have := Option.some.inj e_; omega)
  replace hB := hB.grown hg hB.size (by intro k_ hk_; cases hk_; exact HG0.out)
  refine hK.out _ _ (tB.below hB) (fun hS => ?_)
  refine wpAnyH_done (by kernel_rfl) ?_ _
  clear hS
  go_wp2_with fail
  refine bodyPost_ret (results_agg rfl rfl hn Tryd.underlying29 rfl size_pt) rfl ?_
  exact ⟨_, rfl, ⟨q3, q6, rfl, by have := HG0.out; omega, by have := HG0.out; omega, by omega, kq3, kq6⟩, hB⟩
set_option maxHeartbeats 4000000 in
set_option maxRecDepth 20000 in
theorem Base_c (w : World) (tB : BaseT w 1) :
    Calls Tryd.prog 14 #[] w (BasePost w) := by
  go_enter Tryd.func14, Tryd.ntmps14
  have hB := Below.refl w.heap.size w
  go_wp2_with (refine wpList_alloc_agg rfl 29 rfl [(.slice none 0 0), (.slice none 0 0), (.bool false)] 3 (by kernel_rfl) ?_)
  intro w1 hk0 hb
  have hz_ := hB.size
  replace hB := hB.trans (hb.mono hB.size)
  clear hb
  obtain ⟨g0, hg_⟩ : ∃ g, g = w.heap.size := ⟨_, rfl⟩
  rw [← hg_] at hk0 ⊢
  have HG0 : Hid (w.heap.size ≤ g0) := Lib.hid (by rw [hg_]; exact hz_)
  clear hg_ hz_
  go_wp2_with fail
  have lt0 := hk0.lt
  refine (base_c w1 (tB.below hB)).mono ?_; rintro e_ w2 ⟨v1, rfl, hr, hb⟩
  replace hk0 := hk0.keep hb
  replace hB := hB.trans (hb.mono hB.size)
  replace hr := hr.mono (Nat.succ_le_of_lt lt0)
  clear hb lt0
  obtain ⟨gx, gy, rfl, h1, h2, h3, h4, h5⟩ := hr
  go_wp2_with (refine wpList_store_agg rfl 29 _ _ rfl g0 29 [(.slice none 0 0), (.slice none 0 0), (.bool false)] [.slice (some ⟨gx, 0, none⟩) 8 8, .slice (some ⟨gy, 0, none⟩) 8 8, .bool false] rfl rfl hk0 size_pt (by intro v_ hv_; simp only [List.mem_cons, List.not_mem_nil, or_false] at hv_; rcases hv_ with rfl | rfl | rfl <;> rfl) rfl ?_)
  intro w9 hn hg
  replace hB := hB.grown hg hB.size (by intro k_ hk_; cases hk_; exact HG0.out)
  have hr : BaseRes (g0 + 1) w9 _ := BaseRes.past ⟨gx, gy, rfl, h1, h2, h3, h4, h5⟩ hg
  go_wp2_with fail
  refine bodyPost_ret (results_agg rfl rfl hn Tryd.underlying29 rfl size_pt) rfl ?_
  exact ⟨_, rfl, hr.mono (Nat.le_succ_of_le HG0.out), hB⟩
end Go.Proofs.YtlolkighnnedfaaDoor
/- signetlaw13: sameNat, wide, kept, by their contracts. (Printed by gen_edla.py.) -/
set_option linter.unusedVariables false
set_option linter.unusedSimpArgs false
namespace Go.Sg
open Go.RowKit
/-- The marks behind a wide copy. -/
def mw4 : List Int := List.replicate 4 2779096485
theorem mw4_len : mw4.length = 4 := rfl
theorem mw4_u : U32 mw4 := .of_mem (by omega) (by intro x hx; have := List.eq_of_mem_replicate hx; omega)
theorem wide_sl {w : World} {g : Nat} {E : TypeId} {xs : List Int} (h : Blk w g .u32 E (xs ++ mw4)) (hl : xs.length ≤ 17592186044415) : Sl .u32 w (some ⟨g, 0, none⟩) (xs.length + 4) xs := by
  have := h.sl xs.length (xs.length + 4) (by omega) (by omega)
  rwa [List.take_left] at this
theorem cutH {P : Program} (w : World) (T E : TypeId) (hu : P.underlying T = some (.slice E)) (hs : (P.info? E).map (·.size) = some 1) (a : Option Addr) (n cap h : Nat) (h1 : h ≤ cap) :
    (Instr.sliceAt T (.slice a n cap) none (some (.int .i64 (h : Int))) none).run P w = .ok (.slice a h cap) w := run_to w T E hu hs a n cap h h1 h rfl
end Go.Sg
namespace Go.Proofs.YtlolkighnnedfaaDoor
open Go.RowKit Go.Sg
set_option maxHeartbeats 1000000 in
theorem sameNat_c (a a' : Option Addr) (cap cap' : Nat) (xs ys : List Int) (w : World) (hx : Sl .u32 w a cap xs) (hy : Sl .u32 w a' cap' ys) :
    Calls Tryd.prog 19 #[.slice a xs.length cap, .slice a' ys.length cap'] w (BoolPost (decide (xs = ys)) w) := by
  have hxm := Nat.le_trans hx.le hx.max
  have hym := Nat.le_trans hy.le hy.max
  by_cases hl : xs.length = ys.length
  · obtain ⟨n, hn⟩ : ∃ n, n = ys.length := ⟨_, rfl⟩
    have HN := Lib.hid hn
    have HX := Lib.hid (show xs.length = n by omega)
    rw [hl]
    rw [← hn] at hym ⊢
    clear hl hn hxm
    have hne : ((n : Int) != n) = false := by simp
    go_enter Tryd.func19, Tryd.ntmps19
    go_wp2_with fail
    go_loopw [5] (fun t wr => ∃ i : Nat, i ≤ n ∧ t = .int .i64 (i : Int) ∧ (∀ j, j < i → nth xs j = nth ys j) ∧ Dr w wr)
      (fun t _ => n - (intOf t).toNat)
    case atStart => exact ⟨0, by omega, rfl, fun j hj => by omega, .refl _⟩
    case round =>
      obtain ⟨i, hi, rfl, hall, nd, rfl⟩ := hrel
      have HA := Lib.hid hall
      clear hall
      by_cases hlt : i < n
      · obtain ⟨b, off, rfl, hcc⟩ := hx.cells (by have := HX.out; omega)
        obtain ⟨b', off', rfl, hcc'⟩ := hy.cells (by have := HN.out; omega)
        have c1 := hcc i (by have := HX.out; omega)
        have c2 := hcc' i (by have := HN.out; omega)
        clear hcc hcc'
        by_cases he : nth xs i = nth ys i
        · have HE := Lib.hid he
          have g1 : (nth xs i != nth ys i) = false := by rw [he]; simp
          clear he
          go_wp2_with fail
          go_quiet (fail)
          go_wp2_with fail
          go_roundw
          case rel => exact ⟨i + 1, by omega, by go_num, fun j hj => by
            by_cases h : j = i
            · rw [h]; exact HE.out
            · exact HA.out j (by omega), (by repeat (first | exact Dr.refl _ | apply Dr.drewN))⟩
          case measure => simp [intOf]; omega
        · have HE := Lib.hid (show decide (xs = ys) = false from decide_eq_false fun h => he (by rw [h]))
          have g1 : (nth xs i != nth ys i) = true := by simpa using he
          clear he
          go_wp2_with fail
          go_quiet (fail)
          go_wp2_with fail
          go_ret
          exact ⟨by rw [HE.out]; rfl, (by repeat (first | exact Dr.refl _ | apply Dr.drewN))⟩
      · have HE := Lib.hid (show decide (xs = ys) = true from decide_eq_true (ext_nth _ _ (by rw [HX.out, HN.out]) fun j hj => HA.out j (by have := HX.out; omega)))
        go_wp2_with fail
        go_ret
        exact ⟨by rw [HE.out]; rfl, nd, rfl⟩
  · have HE := Lib.hid (show decide (xs = ys) = false from decide_eq_false fun h => hl (by rw [h]))
    have hne : ((xs.length : Int) != ys.length) = true := by simp; omega
    clear hl
    go_enter Tryd.func19, Tryd.ntmps19
    go_wp2_with fail
    go_ret
    exact ⟨by rw [HE.out]; rfl, .refl _⟩


theorem sameNat_can {v v' : Value} {n n' : Nat} {W : World} (h : CanAt W v n) (h' : CanAt W v' n') : Calls Tryd.prog 19 #[v, v'] W (BoolPost (decide (n = n')) W) := by
  obtain ⟨a, c, zs, rfl, s, cz, u, rfl, hl⟩ := h
  obtain ⟨a', c', zs', rfl, s', cz', u', rfl, hl'⟩ := h'
  have e : decide (val zs = val zs') = decide (zs = zs') := by
    rw [decide_eq_decide]
    exact ⟨fun h => cz.ext cz' u u' h, fun h => by rw [h]⟩
  rw [e]
  exact sameNat_c _ _ _ _ _ _ _ s s'
def WidePost (xs : List Int) (w : World) (e : Ending) (w' : World) : Prop := ∃ g, e = .returned (.slice (some ⟨g, 0, none⟩) xs.length (xs.length + 4)) ∧ w.heap.size ≤ g ∧ Blk w' g .u32 36 (xs ++ mw4) ∧ Below w.heap.size w w'

set_option maxHeartbeats 4000000 in
set_option maxRecDepth 20000 in
theorem wide_c (a : Option Addr) (cap : Nat) (xs : List Int) (w : World) (hx : Sl .u32 w a cap xs) (hl : xs.length ≤ 17592186044415) :
    Calls Tryd.prog 20 #[.slice a xs.length cap] w (WidePost xs w) := by
  obtain ⟨n, hn⟩ : ∃ n, n = xs.length := ⟨_, rfl⟩
  have HN := Lib.hid hn
  rw [← hn] at hl ⊢
  clear hn
  go_enter Tryd.func20, Tryd.ntmps20
  go_wp2_with (at_make; refine wpList_make_blk _ rfl _ _ 27 rfl 36 .u32 4 Tryd.underlying27 info32e (n + 4) _ _ rfl rfl (by omega) (by omega) (by omega) (by omega) ?_)
  intro w1 hk1 hs1 hb1
  have hx1 := hx.below hb1
  obtain ⟨G, hG⟩ : ∃ G, G = w.heap.size := ⟨_, rfl⟩
  rw [← hG] at hk1 ⊢
  have hge : w.heap.size ≤ G := by omega
  clear hG hx hs1
  go_wp2_with (with_reducible refine wpList_copy_blk rfl _ _ 27 27 rfl 36 Tryd.underlying27 size32r _ G 0 _ _ _ _ _ rfl rfl .u32 _ xs hk1 hx1.cells HN.out.symm (fun _ _ => rfl) (by rw [List.length_replicate]; omega) ?_)
  intro w2 hk2 hg2 hs2
  have hb2 : Below w.heap.size w w2 := hb1.grown hg2 (by have := hb1.size; omega) (by simp; omega)
  have hk3 : Blk w2 G .u32 36 (xs ++ (List.replicate 0 2779096485 ++ List.replicate (4 - 0) 0)) := by
    have e : xs.take (n + 4) ++ List.replicate (n + 4 - n) (0 : Int) = xs ++ (List.replicate 0 2779096485 ++ List.replicate (4 - 0) 0) := by
      rw [List.take_of_length_le (by rw [← HN.out]; omega), show n + 4 - n = 4 by omega]
      rfl
    have h2 := hk2
    rw [← e]
    simpa [Nat.min_eq_left (show n ≤ n + 4 by omega)] using h2
  clear hk1 hk2 hg2 hb1 hs2 hx1
  go_wp2_with fail
  go_loopw [4] (fun t wr => ∃ j : Nat, j ≤ 4 ∧ t = .int .i64 ((n + j : Nat) : Int) ∧ Blk wr G .u32 36 (xs ++ (List.replicate j 2779096485 ++ List.replicate (4 - j) 0)) ∧ Below w.heap.size w wr)
    (fun t _ => n + 4 - (intOf t).toNat)
  case atStart => exact ⟨0, by omega, by rw [Nat.add_zero], hk3, hb2⟩
  case round =>
    clear hk3 hb2
    obtain ⟨j, hj, rfl, hk, hb⟩ := hrel
    obtain ⟨i, hi⟩ : ∃ i, i = n + j := ⟨_, rfl⟩
    rw [← hi]
    have HI := Lib.hid hi
    by_cases hlt : j < 4
    · have ll : (xs ++ (List.replicate j (2779096485 : Int) ++ List.replicate (4 - j) 0)).length = n + 4 := by simp [HN.out]; omega
      have c0 := hk.cell i (by rw [ll]; omega)
      have f0 := hk.free i
      have hs := hk.set i 2779096485
      have fin : Hid ((xs ++ (List.replicate j 2779096485 ++ List.replicate (4 - j) 0)).set i 2779096485 = xs ++ (List.replicate (j + 1) 2779096485 ++ List.replicate (4 - (j + 1)) 0)) := Lib.hid (by
        rw [List.set_append_right _ _ (by rw [← HN.out]; omega), ← HN.out, List.set_append_right _ _ (by rw [List.length_replicate]; omega), List.length_replicate, show i - n - j = 0 by omega,
          show 4 - j = (4 - (j + 1)) + 1 by omega, List.replicate_succ (n := 4 - (j + 1)), List.set_cons_zero, List.replicate_succ' (n := j), List.append_assoc]
        rfl)
      rw [fin.out] at hs
      have hb' := hb.setCell (p := ⟨G, i, none⟩) hge (.int .u32 2779096485)
      have hin : (i : Int) < (n : Int) + 4 := by omega
      have hin2 : i < n + 4 := by omega
      have hd1 : decide ((i : Int) < (n : Int) + 4) = true := decide_eq_true hin
      clear hk hb ll hi
      go_wp2_with fail
      go_roundw
      case rel => exact ⟨j + 1, by omega, by have := HI.out; go_num, hs, hb'⟩
      case measure => have := HI.out; simp [intOf]; omega
    · obtain rfl : j = 4 := by omega
      have hkf : Blk wr G .u32 36 (xs ++ mw4) := by simpa [mw4] using hk
      have hin : ¬ (i : Int) < (n : Int) + 4 := by omega
      have hin2 : ¬ i < n + 4 := by omega
      have hd1 : decide ((i : Int) < (n : Int) + 4) = false := decide_eq_false hin
      have hcut := fun W => cutH (P := Tryd.prog) W 27 36 Tryd.underlying27 size32r (some ⟨G, 0, none⟩) (n + 4) (n + 4) n (by omega)
      clear hk hi
      go_wp2_with fail
      go_ret
      exact ⟨G, by rw [← HN.out]; first | done | rfl, hge, hkf, hb⟩

set_option maxHeartbeats 4000000 in
set_option maxRecDepth 20000 in
theorem kept_c (g : Nat) (a : Option Addr) (cap' : Nat) (xs : List Int) (w : World) (hk : Blk w g .u32 36 (xs ++ mw4)) (hx : Sl .u32 w a cap' xs) (hl : xs.length ≤ 17592186044415) :
    Calls Tryd.prog 34 #[.slice (some ⟨g, 0, none⟩) xs.length (xs.length + 4), .slice a xs.length cap'] w (fun e w' => e = .returned (.bool true) ∧ Below w.heap.size w w') := by
  have cm := sameNat_c _ _ _ _ _ _ w (wide_sl hk hl) hx
  rw [show decide (xs = xs) = true from decide_eq_true rfl] at cm
  have cells : ∀ j, j < 4 → w.cell? ⟨g, xs.length + j, none⟩ = some (.int .u32 2779096485) := fun j hj => by
    rw [hk.cell (xs.length + j) (by rw [List.length_append, mw4_len]; omega), nth_append_right]
    unfold mw4
    rw [nth_replicate _ _ _ hj]
  have hcut := fun W => cutH (P := Tryd.prog) W 27 36 Tryd.underlying27 size32r (some ⟨g, 0, none⟩) xs.length (xs.length + 4) (xs.length + 4) (by omega)
  obtain ⟨n, hn⟩ : ∃ n, n = xs.length := ⟨_, rfl⟩
  rw [← hn] at cm hl hcut ⊢
  have e9 : ((n + 4 : Nat) : Int) = (n : Int) + 4 := by omega
  rw [e9] at hcut
  have CELLS := Lib.hid cells
  have HN := Lib.hid hn
  clear cells hn e9
  go_enter Tryd.func34, Tryd.ntmps34
  go_wp2_with fail
  go_loopw [6] (fun t wr => ∃ j : Nat, j ≤ 4 ∧ t = .int .i64 ((n + j : Nat) : Int) ∧ wr = w) (fun t _ => n + 4 - (intOf t).toNat)
  case atStart => exact ⟨0, by omega, by rw [Nat.add_zero], rfl⟩
  case round =>
    obtain ⟨j, hj, rfl, hww⟩ := hrel
    subst hww
    obtain ⟨i, hi⟩ : ∃ i, i = n + j := ⟨_, rfl⟩
    rw [← hi]
    have HI := Lib.hid hi
    by_cases hlt : j < 4
    · have c0 := CELLS.out j hlt
      rw [← HN.out, ← hi] at c0
      have hin : (i : Int) < (n : Int) + 4 := by omega
      have hin2 : i < n + 4 := by omega
      have hd1 : decide ((i : Int) < (n : Int) + 4) = true := decide_eq_true hin
      clear hi cm hcut
      go_wp2_with fail
      go_roundw
      case rel => exact ⟨j + 1, by omega, by have := HI.out; go_num, by trivial⟩
      case measure => have := HI.out; simp [intOf]; omega
    · obtain rfl : j = 4 := by omega
      have hin : ¬ (i : Int) < (n : Int) + 4 := by omega
      have hin2 : ¬ i < n + 4 := by omega
      have hd1 : decide ((i : Int) < (n : Int) + 4) = false := decide_eq_false hin
      clear hi
      go_wp2_with fail
      refine cm.mono ?_; rintro e w1 ⟨rfl, hb⟩
      go_wp2_with fail
      go_ret
      exact ⟨rfl, hb.b⟩

end Go.Proofs.YtlolkighnnedfaaDoor
/- signetlaw13: twin, still, one; the answers of Add and Mul in one form. (Printed by gen_edlb.py.) -/
set_option linter.unusedVariables false
set_option linter.unusedSimpArgs false
namespace Go.Sg
open Go.RowKit
theorem Blk.keep {w w' : World} {g : Nat} {k : IntKind} {E : TypeId} {xs : List Int} (h : Blk w g k E xs) (hb : Below w.heap.size w w') : Blk w' g k E xs := h.below hb h.lt
end Go.Sg
namespace Go.Proofs.YtlolkighnnedfaaDoor
open Go.RowKit Go.Sg
/-- An answer: two numbers of the call's own. -/
def PtN (B : Nat) (w : World) (v : Value) (X Y : Nat) : Prop := ∃ vx vy, v = .agg #[vx, vy, .bool false] ∧ NatRes B w vx X ∧ NatRes B w vy Y
def AnsPost (r : Int × Nat × Nat) (W : World) (e : Ending) (w' : World) : Prop := ∃ v, e = .returned (.tuple #[v, .int .i64 r.1]) ∧ PtN W.heap.size w' v r.2.1 r.2.2 ∧ Below W.heap.size W w'
def ptA (P : Pt) : Int × Nat × Nat := (0, P.1.val, P.2.val)
def noA (c : Int) : Int × Nat × Nat := (c, 0, 0)
theorem PtOk.ans {Q : Pt} {W : World} {e : Ending} {w' : World} (h : PtOk Q W e w') : AnsPost (ptA Q) W e w' := by
  obtain ⟨v, rfl, ⟨vx, vy, rfl, h1, h2, _⟩, hb⟩ := h
  exact ⟨_, rfl, ⟨_, _, rfl, h1, h2⟩, hb⟩
theorem NoPt.ans {c : Int} {W : World} {e : Ending} {w' : World} (h : NoPt c W e w') : AnsPost (noA c) W e w' := by
  obtain ⟨rfl, hb⟩ := h
  exact ⟨_, rfl, ⟨_, _, rfl, NatRes.nil0 _ _, NatRes.nil0 _ _⟩, hb⟩
def addA (X Y : Nat) (i : Bool) (X' Y' : Nat) (i' : Bool) : Int × Nat × Nat := match ptOf X Y i, ptOf X' Y' i' with
  | some P, some Q => ptA (eAdd P Q)
  | _, _ => noA 93
def mulA (k X Y : Nat) (i : Bool) : Int × Nat × Nat := match ptOf X Y i with
  | some P => if bl k ≤ 1024 then ptA (eMul k P) else noA 10
  | none => noA 93
theorem onB_none {X Y : Nat} {i : Bool} (h : ptOf X Y i = none) : onB X Y i = false := by unfold onB; rw [h]; rfl
theorem onB_some {X Y : Nat} {i : Bool} {P : Pt} (h : ptOf X Y i = some P) : onB X Y i = true := by unfold onB; rw [h]; rfl
section
variable {va vb vk : Value} {X Y X' Y' k : Nat} {i i' : Bool} {w : World}
theorem add_any (ha : PtIn w va X Y i) (hb : PtIn w vb X' Y' i') (tP : TabAt w 0 limbP) (tD : TabAt w 3 limbD) : Calls Tryd.prog 15 #[va, vb] w (AnsPost (addA X Y i X' Y' i') w) := by
  unfold addA
  cases h1 : ptOf X Y i with
  | none => exact (add_no1 ha hb (onB_none h1) tP tD).mono fun e w' h => h.ans
  | some P => cases h2 : ptOf X' Y' i' with
    | none => exact (add_no2 ha hb (onB_some h1) (onB_none h2) tP tD).mono fun e w' h => h.ans
    | some Q =>
      obtain ⟨rfl, rfl, rfl, o1⟩ := ptOf_some h1
      obtain ⟨rfl, rfl, rfl, o2⟩ := ptOf_some h2
      exact (add_ok ha hb o1 o2 tP tD).mono fun e w' h => h.ans
theorem mul_any (nk : NumAt w vk k) (ha : PtIn w va X Y i) (tP : TabAt w 0 limbP) (tD : TabAt w 3 limbD) : Calls Tryd.prog 16 #[vk, va] w (AnsPost (mulA k X Y i) w) := by
  unfold mulA
  cases h1 : ptOf X Y i with
  | none => exact (mul_no nk ha (onB_none h1) tP tD).mono fun e w' h => h.ans
  | some P =>
    obtain ⟨rfl, rfl, rfl, o1⟩ := ptOf_some h1
    by_cases hk : bl k ≤ 1024
    · simp only [hk, if_true]
      exact (mul_ok nk ha o1 hk tP tD).mono fun e w' h => h.ans
    · simp only [hk, if_false]
      exact (mul_large nk ha o1 hk tP tD).mono fun e w' h => h.ans
end
/-- The numbers of all answers are small. -/
def Small (r : Int × Nat × Nat) : Prop := Lim 8 r.2.1 ∧ Lim 8 r.2.2
theorem small_pt (P : Pt) : Small (ptA P) := ⟨lim_fp _, lim_fp _⟩
theorem small_no (c : Int) : Small (noA c) := ⟨⟨Rpow_pos 8⟩, ⟨Rpow_pos 8⟩⟩
theorem addA_small (X Y : Nat) (i : Bool) (X' Y' : Nat) (i' : Bool) : Small (addA X Y i X' Y' i') := by
  unfold addA
  split
  · exact small_pt _
  · exact small_no _
theorem mulA_small (k X Y : Nat) (i : Bool) : Small (mulA k X Y i) := by
  unfold mulA
  split
  · split
    · exact small_pt _
    · exact small_no _
  · exact small_no _

set_option maxHeartbeats 4000000 in
set_option maxRecDepth 20000 in
theorem one_c {va vb : Value} {X Y X' Y' : Nat} {w : World} (ha : ∃ vx vy, va = .agg #[vx, vy, .bool false] ∧ CanAt w vx X ∧ CanAt w vy Y) (hb_ : ∃ vx vy, vb = .agg #[vx, vy, .bool false] ∧ CanAt w vx X' ∧ CanAt w vy Y') :
    Calls Tryd.prog 22 #[va, vb] w (fun e w' => e = .returned (.bool (decide (X = X' ∧ Y = Y'))) ∧ Below w.heap.size w w') := by
  obtain ⟨vax, vay, rfl, cax, cay⟩ := ha
  obtain ⟨vbx, vby, rfl, cbx, cby⟩ := hb_
  obtain ⟨an, han⟩ : ∃ a, a = decide (X = X' ∧ Y = Y') := ⟨_, rfl⟩
  rw [← han]
  have HAN := Lib.hid han
  clear han
  by_cases hx : X = X'
  · by_cases hy : Y = Y'
    · have HE : Hid (an = true) := Lib.hid (by rw [HAN.out]; exact decide_eq_true ⟨hx, hy⟩)
      have HX := Lib.hid hx
      have HY := Lib.hid hy
      clear hx hy
      go_enter Tryd.func22, Tryd.ntmps22
      have hB := Below.refl w.heap.size w
      go_wp2_with (refine wpList_box_agg rfl 29 _ rfl [vax, vay, .bool false] rfl ?_)
      intro w1 hk2 hb
      have hz_ := hB.size
      replace hB := hB.trans (hb.mono hB.size)
      clear hb
      obtain ⟨g2, hg_⟩ : ∃ g, g = w.heap.size := ⟨_, rfl⟩
      rw [← hg_] at hk2 ⊢
      have HG2 : Hid (w.heap.size ≤ g2) := Lib.hid (by rw [hg_]; exact hz_)
      clear hg_ hz_
      go_wp2_with (refine wpList_box_agg rfl 29 _ rfl [vbx, vby, .bool false] rfl ?_)
      intro w2 hk3 hb
      have hz_ := hB.size
      have lt2_ := hk2.lt
      replace hB := hB.trans (hb.mono hB.size)
      replace hk2 := hk2.keep hb
      clear hb
      obtain ⟨g3, hg_⟩ : ∃ g, g = w1.heap.size := ⟨_, rfl⟩
      rw [← hg_] at hk3 ⊢
      have HG3 : Hid (w.heap.size ≤ g3) := Lib.hid (by rw [hg_]; exact hz_)
      have NE2_3 : Hid (g2 ≠ g3) := Lib.hid (by rw [hg_]; exact Nat.ne_of_lt lt2_)
      clear hg_ hz_ lt2_
      have h_ := sameNat_can (cax.below hB) (cbx.below hB)
      rw [show decide (X = X') = true from decide_eq_true HX.out] at h_
      have q0_ := hk2.cell 2 rfl
      have q1_ := hk3.cell 2 rfl
      have q2_ := hk2.cell 0 rfl
      have q3_ := hk3.cell 0 rfl
      go_wp2_with fail
      refine (h_).mono ?_; rintro e_ w3 ⟨rfl, hd_⟩
      clear q0_ q1_ q2_ q3_
      have hb := hd_.b
      replace hB := hB.trans (hb.mono hB.size)
      replace hk2 := hk2.keep hb
      replace hk3 := hk3.keep hb
      clear hb hd_ h_
      have h_ := sameNat_can (cay.below hB) (cby.below hB)
      rw [show decide (Y = Y') = true from decide_eq_true HY.out] at h_
      have q0_ := hk2.cell 1 rfl
      have q1_ := hk3.cell 1 rfl
      go_wp2_with fail
      refine (h_).mono ?_; rintro e_ w4 ⟨rfl, hd_⟩
      clear q0_ q1_
      have hb := hd_.b
      replace hB := hB.trans (hb.mono hB.size)
      replace hk2 := hk2.keep hb
      replace hk3 := hk3.keep hb
      clear hb hd_ h_
      go_wp2_with fail
      go_ret
      exact ⟨by rw [HE.out]; first | done | rfl, hB⟩
    · have HE : Hid (an = false) := Lib.hid (by rw [HAN.out]; exact decide_eq_false fun h => hy h.2)
      have HX := Lib.hid hx
      have HY := Lib.hid hy
      clear hx hy
      go_enter Tryd.func22, Tryd.ntmps22
      have hB := Below.refl w.heap.size w
      go_wp2_with (refine wpList_box_agg rfl 29 _ rfl [vax, vay, .bool false] rfl ?_)
      intro w1 hk2 hb
      have hz_ := hB.size
      replace hB := hB.trans (hb.mono hB.size)
      clear hb
      obtain ⟨g2, hg_⟩ : ∃ g, g = w.heap.size := ⟨_, rfl⟩
      rw [← hg_] at hk2 ⊢
      have HG2 : Hid (w.heap.size ≤ g2) := Lib.hid (by rw [hg_]; exact hz_)
      clear hg_ hz_
      go_wp2_with (refine wpList_box_agg rfl 29 _ rfl [vbx, vby, .bool false] rfl ?_)
      intro w2 hk3 hb
      have hz_ := hB.size
      have lt2_ := hk2.lt
      replace hB := hB.trans (hb.mono hB.size)
      replace hk2 := hk2.keep hb
      clear hb
      obtain ⟨g3, hg_⟩ : ∃ g, g = w1.heap.size := ⟨_, rfl⟩
      rw [← hg_] at hk3 ⊢
      have HG3 : Hid (w.heap.size ≤ g3) := Lib.hid (by rw [hg_]; exact hz_)
      have NE2_3 : Hid (g2 ≠ g3) := Lib.hid (by rw [hg_]; exact Nat.ne_of_lt lt2_)
      clear hg_ hz_ lt2_
      have h_ := sameNat_can (cax.below hB) (cbx.below hB)
      rw [show decide (X = X') = true from decide_eq_true HX.out] at h_
      have q0_ := hk2.cell 2 rfl
      have q1_ := hk3.cell 2 rfl
      have q2_ := hk2.cell 0 rfl
      have q3_ := hk3.cell 0 rfl
      go_wp2_with fail
      refine (h_).mono ?_; rintro e_ w3 ⟨rfl, hd_⟩
      clear q0_ q1_ q2_ q3_
      have hb := hd_.b
      replace hB := hB.trans (hb.mono hB.size)
      replace hk2 := hk2.keep hb
      replace hk3 := hk3.keep hb
      clear hb hd_ h_
      have h_ := sameNat_can (cay.below hB) (cby.below hB)
      rw [show decide (Y = Y') = false from decide_eq_false HY.out] at h_
      have q0_ := hk2.cell 1 rfl
      have q1_ := hk3.cell 1 rfl
      go_wp2_with fail
      refine (h_).mono ?_; rintro e_ w4 ⟨rfl, hd_⟩
      clear q0_ q1_
      have hb := hd_.b
      replace hB := hB.trans (hb.mono hB.size)
      replace hk2 := hk2.keep hb
      replace hk3 := hk3.keep hb
      clear hb hd_ h_
      go_wp2_with fail
      go_ret
      exact ⟨by rw [HE.out]; first | done | rfl, hB⟩
  · have HE : Hid (an = false) := Lib.hid (by rw [HAN.out]; exact decide_eq_false fun h => hx h.1)
    have HX := Lib.hid hx
    clear hx
    go_enter Tryd.func22, Tryd.ntmps22
    have hB := Below.refl w.heap.size w
    go_wp2_with (refine wpList_box_agg rfl 29 _ rfl [vax, vay, .bool false] rfl ?_)
    intro w1 hk2 hb
    have hz_ := hB.size
    replace hB := hB.trans (hb.mono hB.size)
    clear hb
    obtain ⟨g2, hg_⟩ : ∃ g, g = w.heap.size := ⟨_, rfl⟩
    rw [← hg_] at hk2 ⊢
    have HG2 : Hid (w.heap.size ≤ g2) := Lib.hid (by rw [hg_]; exact hz_)
    clear hg_ hz_
    go_wp2_with (refine wpList_box_agg rfl 29 _ rfl [vbx, vby, .bool false] rfl ?_)
    intro w2 hk3 hb
    have hz_ := hB.size
    have lt2_ := hk2.lt
    replace hB := hB.trans (hb.mono hB.size)
    replace hk2 := hk2.keep hb
    clear hb
    obtain ⟨g3, hg_⟩ : ∃ g, g = w1.heap.size := ⟨_, rfl⟩
    rw [← hg_] at hk3 ⊢
    have HG3 : Hid (w.heap.size ≤ g3) := Lib.hid (by rw [hg_]; exact hz_)
    have NE2_3 : Hid (g2 ≠ g3) := Lib.hid (by rw [hg_]; exact Nat.ne_of_lt lt2_)
    clear hg_ hz_ lt2_
    have h_ := sameNat_can (cax.below hB) (cbx.below hB)
    rw [show decide (X = X') = false from decide_eq_false HX.out] at h_
    have q0_ := hk2.cell 2 rfl
    have q1_ := hk3.cell 2 rfl
    have q2_ := hk2.cell 0 rfl
    have q3_ := hk3.cell 0 rfl
    go_wp2_with fail
    refine (h_).mono ?_; rintro e_ w3 ⟨rfl, hd_⟩
    clear q0_ q1_ q2_ q3_
    have hb := hd_.b
    replace hB := hB.trans (hb.mono hB.size)
    replace hk2 := hk2.keep hb
    replace hk3 := hk3.keep hb
    clear hb hd_ h_
    go_wp2_with fail
    go_ret
    exact ⟨by rw [HE.out]; first | done | rfl, hB⟩
def TwinPost (xs ys : List Int) (inf : Bool) (W : World) (e : Ending) (w' : World) : Prop := ∃ gx gy, e = .returned (.agg #[.slice (some ⟨gx, 0, none⟩) xs.length (xs.length + 4), .slice (some ⟨gy, 0, none⟩) ys.length (ys.length + 4), .bool inf]) ∧ W.heap.size ≤ gx ∧ gx < gy ∧
  Blk w' gx .u32 36 (xs ++ mw4) ∧ Blk w' gy .u32 36 (ys ++ mw4) ∧ Below W.heap.size W w'
set_option maxHeartbeats 4000000 in
set_option maxRecDepth 20000 in
theorem twin_c {ax ay : Option Addr} {cx cy : Nat} {xs ys : List Int} {inf : Bool} {w : World} (hx : Sl .u32 w ax cx xs) (hy : Sl .u32 w ay cy ys) (lx : xs.length ≤ 17592186044415) (ly : ys.length ≤ 17592186044415) :
    Calls Tryd.prog 31 #[.agg #[.slice ax xs.length cx, .slice ay ys.length cy, .bool inf]] w (TwinPost xs ys inf w) := by
  obtain ⟨nx, hnx⟩ : ∃ n, n = xs.length := ⟨_, rfl⟩
  obtain ⟨ny, hny⟩ : ∃ n, n = ys.length := ⟨_, rfl⟩
  have wx := fun W (h : Sl .u32 W ax cx xs) => wide_c ax cx xs W h lx
  have wy := fun W (h : Sl .u32 W ay cy ys) => wide_c ay cy ys W h ly
  unfold WidePost at wx wy
  unfold TwinPost
  rw [← hnx] at wx ⊢
  rw [← hny] at wy ⊢
  clear hnx hny lx ly
  go_enter Tryd.func31, Tryd.ntmps31
  have hB := Below.refl w.heap.size w
  go_wp2_with (refine wpList_box_agg rfl 29 _ rfl [(.slice ax nx cx), (.slice ay ny cy), .bool inf] rfl ?_)
  intro w1 hk1 hb
  have hz_ := hB.size
  replace hB := hB.trans (hb.mono hB.size)
  clear hb
  obtain ⟨g1, hg_⟩ : ∃ g, g = w.heap.size := ⟨_, rfl⟩
  rw [← hg_] at hk1 ⊢
  have HG1 : Hid (w.heap.size ≤ g1) := Lib.hid (by rw [hg_]; exact hz_)
  clear hg_ hz_
  go_wp2_with (refine wpList_alloc_agg rfl 29 rfl [(.slice none 0 0), (.slice none 0 0), (.bool false)] 3 (by kernel_rfl) ?_)
  intro w2 hk2 hb
  have hz_ := hB.size
  have lt1_ := hk1.lt
  replace hB := hB.trans (hb.mono hB.size)
  replace hk1 := hk1.keep hb
  clear hb
  obtain ⟨g2, hg_⟩ : ∃ g, g = w1.heap.size := ⟨_, rfl⟩
  rw [← hg_] at hk2 ⊢
  have HG2 : Hid (w.heap.size ≤ g2) := Lib.hid (by rw [hg_]; exact hz_)
  have NE1_2 : Hid (g1 ≠ g2) := Lib.hid (by rw [hg_]; exact Nat.ne_of_lt lt1_)
  clear hg_ hz_ lt1_
  go_wp2_with fail
  refine wp_region_held_drew (S := fun W_ => Rw W_ g1 29 [(.slice ax nx cx), (.slice ay ny cy), .bool inf]) (by kernel_rfl) (hk1) (fun hS => ?_)
  have hb := below_drewN (Below.refl w2.heap.size w2) 1
  obtain ⟨w3, hw_⟩ : ∃ x, x = World.drew w2 := ⟨_, rfl⟩
  rw [show World.drewN w2 1 = w3 from hw_.symm] at hb
  rw [← hw_] at hS ⊢
  clear hw_
  replace hB := hB.trans (hb.mono hB.size)
  replace hk1 := hk1.keep hb
  replace hk2 := hk2.keep hb
  clear hb
  refine wpAnyH_take (i := 0) (v := ?_) rfl (by kernel_rfl) (by kernel_rfl) (by kernel_rfl) (fun _ _ _ h => h) (Or.inl ⟨by rfl, ?_⟩) hS ?_
  rotate_left
  · intro w _; go_simp; try with_reducible rfl
  simp only [List.getElem_toArray, List.getElem_cons_zero, List.getElem_cons_succ, Act.put, List.setIfInBounds_toArray, List.set_cons_zero, List.set_cons_succ]
  refine wpAnyH_take (i := 1) (v := ?_) rfl (by kernel_rfl) (by kernel_rfl) (by kernel_rfl) (fun _ _ _ h => h) (Or.inl ⟨by rfl, ?_⟩) hS ?_
  rotate_left
  · intro W_ hW_; have c_ := Rw.cell hW_ 0 rfl; go_simp; try with_reducible rfl
  simp only [List.getElem_toArray, List.getElem_cons_zero, List.getElem_cons_succ, Act.put, List.setIfInBounds_toArray, List.set_cons_zero, List.set_cons_succ]
  refine wpAnyH_take (i := 3) (v := ?_) rfl (by kernel_rfl) (by kernel_rfl) (by kernel_rfl) (fun _ _ _ h => h) (Or.inl ⟨by rfl, ?_⟩) hS ?_
  rotate_left
  · intro w _; go_simp; try with_reducible rfl
  simp only [List.getElem_toArray, List.getElem_cons_zero, List.getElem_cons_succ, Act.put, List.setIfInBounds_toArray, List.set_cons_zero, List.set_cons_succ]
  refine wpAnyH_take (i := 4) (v := ?_) rfl (by kernel_rfl) (by kernel_rfl) (by kernel_rfl) (fun _ _ _ h => h) (Or.inl ⟨by rfl, ?_⟩) hS ?_
  rotate_left
  · intro W_ hW_; have c_ := Rw.cell hW_ 1 rfl; go_simp; try with_reducible rfl
  simp only [List.getElem_toArray, List.getElem_cons_zero, List.getElem_cons_succ, Act.put, List.setIfInBounds_toArray, List.set_cons_zero, List.set_cons_succ]
  refine wpAnyH_take (i := 6) (v := ?_) rfl (by kernel_rfl) (by kernel_rfl) (by kernel_rfl) (fun _ _ _ h => h) (Or.inl ⟨by rfl, ?_⟩) hS ?_
  rotate_left
  · intro w _; go_simp; try with_reducible rfl
  simp only [List.getElem_toArray, List.getElem_cons_zero, List.getElem_cons_succ, Act.put, List.setIfInBounds_toArray, List.set_cons_zero, List.set_cons_succ]
  refine wpAnyH_take (i := 7) (v := ?_) rfl (by kernel_rfl) (by kernel_rfl) (by kernel_rfl) (fun _ _ _ h => h) (Or.inl ⟨by rfl, ?_⟩) hS ?_
  rotate_left
  · intro W_ hW_; have c_ := Rw.cell hW_ 2 rfl; go_simp; try with_reducible rfl
  simp only [List.getElem_toArray, List.getElem_cons_zero, List.getElem_cons_succ, Act.put, List.setIfInBounds_toArray, List.set_cons_zero, List.set_cons_succ]
  refine wpAnyH_ready (rs := [2]) (by kernel_rfl) (by simp) ?_
  refine AllReadyH.cons rfl (fun K hK => ?_) AllReadyH.nil
  rw [if_pos (by rfl)]
  simp only [List.getElem_toArray, List.getElem_cons_zero, List.getElem_cons_succ]
  go_simp
  refine (wx _ (hx.below hB)).mono ?_; rintro e_ w4 ⟨gwx, rfl, hge_, kwx, hb⟩
  dsimp only
  have nb_kwx_1 : Hid (gwx ≠ g1) := Lib.hid (by have := hk1.lt; have := hge_; omega)
  have nb_kwx_2 : Hid (gwx ≠ g2) := Lib.hid (by have := hk2.lt; have := hge_; omega)
  have HB_kwx : Hid (w.heap.size ≤ gwx) := Lib.hid (Nat.le_trans hB.size hge_)
  replace hB := hB.trans (hb.mono hB.size)
  replace hk1 := hk1.keep hb
  replace hk2 := hk2.keep hb
  clear hb hge_
  refine hK.out _ _ hk1 (fun hS => ?_)
  refine wpAnyH_ready (rs := [5]) (by kernel_rfl) (by simp) ?_
  refine AllReadyH.cons rfl (fun K hK => ?_) AllReadyH.nil
  rw [if_pos (by rfl)]
  simp only [List.getElem_toArray, List.getElem_cons_zero, List.getElem_cons_succ]
  go_simp
  refine (wy _ (hy.below hB)).mono ?_; rintro e_ w5 ⟨gwy, rfl, hge_, kwy, hb⟩
  dsimp only
  have nb_kwy_1 : Hid (gwy ≠ g1) := Lib.hid (by have := hk1.lt; have := hge_; omega)
  have nb_kwy_2 : Hid (gwy ≠ g2) := Lib.hid (by have := hk2.lt; have := hge_; omega)
  have nbb_kwx_kwy : Hid (gwx ≠ gwy) := Lib.hid (by have := kwx.lt; have := hge_; omega)
  have HB_kwy : Hid (w.heap.size ≤ gwy) := Lib.hid (Nat.le_trans hB.size hge_)
  have hxy : Hid (gwx < gwy) := Lib.hid (by have := kwx.lt; omega)
  replace hB := hB.trans (hb.mono hB.size)
  replace hk1 := hk1.keep hb
  replace hk2 := hk2.keep hb
  replace kwx := kwx.keep hb
  clear hb hge_
  refine hK.out _ _ hk1 (fun hS => ?_)
  refine wpAnyH_ready (rs := [8]) (by kernel_rfl) (by simp) ?_
  refine AllReadyH.cons rfl (fun K hK => ?_) AllReadyH.nil
  rw [if_pos (by rfl)]
  simp only [List.getElem_toArray, List.getElem_cons_zero, List.getElem_cons_succ]
  go_simp
  refine hK.out _ _ hS (fun hS => ?_)
  refine wpAnyH_ready (rs := [9]) (by kernel_rfl) (by simp) ?_
  refine AllReadyH.cons rfl (fun K hK => ?_) AllReadyH.nil
  rw [if_pos (by rfl)]
  simp only [List.getElem_toArray, List.getElem_cons_zero, List.getElem_cons_succ]
  refine wp_store_agg 29 _ _ rfl g2 29 [(.slice none 0 0), (.slice none 0 0), (.bool false)] [(.slice (some ⟨gwx, 0, none⟩) nx (nx + 4)), (.slice (some ⟨gwy, 0, none⟩) ny (ny + 4)), .bool inf] rfl rfl hk2 size_pt (by intro v_ hv_; simp only [List.mem_cons, List.not_mem_nil, or_false] at hv_; rcases hv_ with rfl | rfl | rfl <;> rfl) rfl ?_
  intro w6 hn hg
  replace hB := hB.grown hg hB.size (by intro k_ hk_; cases hk_; exact HG2.out)
  replace hk1 := hk1.grown hg (fun e_ => NE1_2.out (Option.some.inj e_))
  replace hk2 := hn
  replace kwx := kwx.grown hg (fun e_ => nb_kwx_2.out (Option.some.inj e_))
  replace kwy := kwy.grown hg (fun e_ => nb_kwy_2.out (Option.some.inj e_))
  clear hn hg
  refine hK.out _ _ hk1 (fun hS => ?_)
  refine wpAnyH_done (by kernel_rfl) ?_ _
  clear hS
  go_wp2_with fail
  refine bodyPost_ret (results_agg rfl rfl hk2 Tryd.underlying29 rfl size_pt) rfl ?_
  exact ⟨gwx, gwy, rfl, HB_kwx.out, hxy.out, kwx, kwy, hB⟩
set_option maxHeartbeats 4000000 in
set_option maxRecDepth 20000 in
theorem still_c13 {ax ay : Option Addr} {cx cy gx gy : Nat} {xs ys : List Int} {inf : Bool} {w : World} (kx : Blk w gx .u32 36 (xs ++ mw4)) (ky : Blk w gy .u32 36 (ys ++ mw4)) (hx : Sl .u32 w ax cx xs) (hy : Sl .u32 w ay cy ys) (lx : xs.length ≤ 17592186044415) (ly : ys.length ≤ 17592186044415) :
    Calls Tryd.prog 35 #[.agg #[.slice (some ⟨gx, 0, none⟩) xs.length (xs.length + 4), .slice (some ⟨gy, 0, none⟩) ys.length (ys.length + 4), .bool inf], .agg #[.slice ax xs.length cx, .slice ay ys.length cy, .bool inf]] w (fun e w' => e = .returned (.bool true) ∧ Below w.heap.size w w') := by
  obtain ⟨nx, hnx⟩ : ∃ n, n = xs.length := ⟨_, rfl⟩
  obtain ⟨ny, hny⟩ : ∃ n, n = ys.length := ⟨_, rfl⟩
  have wx := fun W (k : Blk W gx .u32 36 (xs ++ mw4)) (h : Sl .u32 W ax cx xs) => kept_c gx ax cx xs W k h lx
  have wy := fun W (k : Blk W gy .u32 36 (ys ++ mw4)) (h : Sl .u32 W ay cy ys) => kept_c gy ay cy ys W k h ly
  rw [← hnx] at wx ⊢
  rw [← hny] at wy ⊢
  clear hnx hny lx ly
  go_enter Tryd.func35, Tryd.ntmps35
  have hB := Below.refl w.heap.size w
  go_wp2_with (refine wpList_box_agg rfl 29 _ rfl [(.slice (some ⟨gx, 0, none⟩) nx (nx + 4)), (.slice (some ⟨gy, 0, none⟩) ny (ny + 4)), .bool inf] rfl ?_)
  intro w1 hk2 hb
  have hz_ := hB.size
  replace hB := hB.trans (hb.mono hB.size)
  clear hb
  obtain ⟨g2, hg_⟩ : ∃ g, g = w.heap.size := ⟨_, rfl⟩
  rw [← hg_] at hk2 ⊢
  have HG2 : Hid (w.heap.size ≤ g2) := Lib.hid (by rw [hg_]; exact hz_)
  clear hg_ hz_
  go_wp2_with (refine wpList_box_agg rfl 29 _ rfl [(.slice ax nx cx), (.slice ay ny cy), .bool inf] rfl ?_)
  intro w2 hk3 hb
  have hz_ := hB.size
  have lt2_ := hk2.lt
  replace hB := hB.trans (hb.mono hB.size)
  replace hk2 := hk2.keep hb
  clear hb
  obtain ⟨g3, hg_⟩ : ∃ g, g = w1.heap.size := ⟨_, rfl⟩
  rw [← hg_] at hk3 ⊢
  have HG3 : Hid (w.heap.size ≤ g3) := Lib.hid (by rw [hg_]; exact hz_)
  have NE2_3 : Hid (g2 ≠ g3) := Lib.hid (by rw [hg_]; exact Nat.ne_of_lt lt2_)
  clear hg_ hz_ lt2_
  have q0_ := hk2.cell 0 rfl
  have q1_ := hk3.cell 0 rfl
  go_wp2_with fail
  refine (wx _ (kx.below hB kx.lt) (hx.below hB)).mono ?_; rintro e_ w3 ⟨rfl, hb⟩
  clear q0_ q1_
  replace hB := hB.trans (hb.mono hB.size)
  replace hk2 := hk2.keep hb
  replace hk3 := hk3.keep hb
  clear hb
  have q0_ := hk2.cell 1 rfl
  have q1_ := hk3.cell 1 rfl
  go_wp2_with fail
  refine (wy _ (ky.below hB ky.lt) (hy.below hB)).mono ?_; rintro e_ w4 ⟨rfl, hb⟩
  clear q0_ q1_
  replace hB := hB.trans (hb.mono hB.size)
  replace hk2 := hk2.keep hb
  replace hk3 := hk3.keep hb
  clear hb
  have q0_ := hk2.cell 2 rfl
  have q1_ := hk3.cell 2 rfl
  go_wp2_with fail
  go_ret
  exact ⟨by simp, hB⟩
end Go.Proofs.YtlolkighnnedfaaDoor
/- signetlaw13: same, roomy, spared, by their contracts. (Printed by gen_edlc.py.) -/
set_option linter.unusedVariables false
set_option linter.unusedSimpArgs false
namespace Go.Sg
open Go.RowKit
/-- The marks behind a roomy copy. -/
def mb9 : List Int := List.replicate 9 165
theorem mb9_len : mb9.length = 9 := rfl
theorem room_sl {w : World} {g : Nat} {E : TypeId} {xs : List Int} (h : Blk w g .u8 E (xs ++ mb9)) (hl : xs.length ≤ 140737488350000) : Sl .u8 w (some ⟨g, 0, none⟩) (xs.length + 9) xs := by
  have := h.sl xs.length (xs.length + 9) (by omega) (by omega)
  rwa [List.take_left] at this
end Go.Sg
namespace Go.Proofs.YtlolkighnnedfaaDoor
open Go.RowKit Go.Sg
theorem size8L : (Tryd.prog.info? 5).map (·.size) = some 1 := by kernel_rfl
set_option maxHeartbeats 1000000 in
theorem same13_c (a a' : Option Addr) (cap cap' : Nat) (xs ys : List Int) (w : World) (hx : Sl .u8 w a cap xs) (hy : Sl .u8 w a' cap' ys) :
    Calls Tryd.prog 30 #[.slice a xs.length cap, .slice a' ys.length cap'] w (BoolPost (decide (xs = ys)) w) := by
  have hxm := Nat.le_trans hx.le hx.max
  have hym := Nat.le_trans hy.le hy.max
  by_cases hl : xs.length = ys.length
  · obtain ⟨n, hn⟩ : ∃ n, n = ys.length := ⟨_, rfl⟩
    have HN := Lib.hid hn
    have HX := Lib.hid (show xs.length = n by omega)
    rw [hl]
    rw [← hn] at hym ⊢
    clear hl hn hxm
    have hne : ((n : Int) != n) = false := by simp
    go_enter Tryd.func30, Tryd.ntmps30
    go_wp2_with fail
    go_loopw [5] (fun t wr => ∃ i : Nat, i ≤ n ∧ t = .int .i64 (i : Int) ∧ (∀ j, j < i → nth xs j = nth ys j) ∧ Dr w wr)
      (fun t _ => n - (intOf t).toNat)
    case atStart => exact ⟨0, by omega, rfl, fun j hj => by omega, .refl _⟩
    case round =>
      obtain ⟨i, hi, rfl, hall, nd, rfl⟩ := hrel
      have HA := Lib.hid hall
      clear hall
      by_cases hlt : i < n
      · obtain ⟨b, off, rfl, hcc⟩ := hx.cells (by have := HX.out; omega)
        obtain ⟨b', off', rfl, hcc'⟩ := hy.cells (by have := HN.out; omega)
        have c1 := hcc i (by have := HX.out; omega)
        have c2 := hcc' i (by have := HN.out; omega)
        clear hcc hcc'
        by_cases he : nth xs i = nth ys i
        · have HE := Lib.hid he
          have g1 : (nth xs i != nth ys i) = false := by rw [he]; simp
          clear he
          go_wp2_with fail
          go_quiet (fail)
          go_wp2_with fail
          go_roundw
          case rel => exact ⟨i + 1, by omega, by go_num, fun j hj => by
            by_cases h : j = i
            · rw [h]; exact HE.out
            · exact HA.out j (by omega), (by repeat (first | exact Dr.refl _ | apply Dr.drewN))⟩
          case measure => simp [intOf]; omega
        · have HE := Lib.hid (show decide (xs = ys) = false from decide_eq_false fun h => he (by rw [h]))
          have g1 : (nth xs i != nth ys i) = true := by simpa using he
          clear he
          go_wp2_with fail
          go_quiet (fail)
          go_wp2_with fail
          go_ret
          exact ⟨by rw [HE.out]; rfl, (by repeat (first | exact Dr.refl _ | apply Dr.drewN))⟩
      · have HE := Lib.hid (show decide (xs = ys) = true from decide_eq_true (ext_nth _ _ (by rw [HX.out, HN.out]) fun j hj => HA.out j (by have := HX.out; omega)))
        go_wp2_with fail
        go_ret
        exact ⟨by rw [HE.out]; rfl, nd, rfl⟩
  · have HE := Lib.hid (show decide (xs = ys) = false from decide_eq_false fun h => hl (by rw [h]))
    have hne : ((xs.length : Int) != ys.length) = true := by simp; omega
    clear hl
    go_enter Tryd.func30, Tryd.ntmps30
    go_wp2_with fail
    go_ret
    exact ⟨by rw [HE.out]; rfl, .refl _⟩


def Room13 (xs : List Int) (w : World) (e : Ending) (w' : World) : Prop := ∃ g, e = .returned (.slice (some ⟨g, 0, none⟩) xs.length (xs.length + 9)) ∧ w.heap.size ≤ g ∧ Blk w' g .u8 5 (xs ++ mb9) ∧ Below w.heap.size w w'

set_option maxHeartbeats 4000000 in
set_option maxRecDepth 20000 in
theorem roomy13_c (a : Option Addr) (cap : Nat) (xs : List Int) (w : World) (hx : Sl .u8 w a cap xs) (hl : xs.length ≤ 140737488350000) :
    Calls Tryd.prog 36 #[.slice a xs.length cap] w (Room13 xs w) := by
  obtain ⟨n, hn⟩ : ∃ n, n = xs.length := ⟨_, rfl⟩
  have HN := Lib.hid hn
  rw [← hn] at hl ⊢
  clear hn
  go_enter Tryd.func36, Tryd.ntmps36
  go_wp2_with (at_make; refine wpList_make_blk _ rfl _ _ 22 rfl 5 .u8 1 Tryd.underlying22 info8a (n + 9) _ _ rfl rfl (by omega) (by omega) (by omega) (by omega) ?_)
  intro w1 hk1 hs1 hb1
  have hx1 := hx.below hb1
  obtain ⟨G, hG⟩ : ∃ G, G = w.heap.size := ⟨_, rfl⟩
  rw [← hG] at hk1 ⊢
  have hge : w.heap.size ≤ G := by omega
  clear hG hx hs1
  go_wp2_with (with_reducible refine wpList_copy_blk rfl _ _ 22 22 rfl 5 Tryd.underlying22 size8L _ G 0 _ _ _ _ _ rfl rfl .u8 _ xs hk1 hx1.cells HN.out.symm (fun _ _ => rfl) (by rw [List.length_replicate]; omega) ?_)
  intro w2 hk2 hg2 hs2
  have hb2 : Below w.heap.size w w2 := hb1.grown hg2 (by have := hb1.size; omega) (by simp; omega)
  have hk3 : Blk w2 G .u8 5 (xs ++ (List.replicate 0 165 ++ List.replicate (9 - 0) 0)) := by
    have e : xs.take (n + 9) ++ List.replicate (n + 9 - n) (0 : Int) = xs ++ (List.replicate 0 165 ++ List.replicate (9 - 0) 0) := by
      rw [List.take_of_length_le (by rw [← HN.out]; omega), show n + 9 - n = 9 by omega]
      rfl
    have h2 := hk2
    rw [← e]
    simpa [Nat.min_eq_left (show n ≤ n + 9 by omega)] using h2
  clear hk1 hk2 hg2 hb1 hs2 hx1
  go_wp2_with fail
  go_loopw [4] (fun t wr => ∃ j : Nat, j ≤ 9 ∧ t = .int .i64 ((n + j : Nat) : Int) ∧ Blk wr G .u8 5 (xs ++ (List.replicate j 165 ++ List.replicate (9 - j) 0)) ∧ Below w.heap.size w wr)
    (fun t _ => n + 9 - (intOf t).toNat)
  case atStart => exact ⟨0, by omega, by rw [Nat.add_zero], hk3, hb2⟩
  case round =>
    clear hk3 hb2
    obtain ⟨j, hj, rfl, hk, hb⟩ := hrel
    obtain ⟨i, hi⟩ : ∃ i, i = n + j := ⟨_, rfl⟩
    rw [← hi]
    have HI := Lib.hid hi
    by_cases hlt : j < 9
    · have ll : (xs ++ (List.replicate j (165 : Int) ++ List.replicate (9 - j) 0)).length = n + 9 := by simp [HN.out]; omega
      have c0 := hk.cell i (by rw [ll]; omega)
      have f0 := hk.free i
      have hs := hk.set i 165
      have fin : Hid ((xs ++ (List.replicate j 165 ++ List.replicate (9 - j) 0)).set i 165 = xs ++ (List.replicate (j + 1) 165 ++ List.replicate (9 - (j + 1)) 0)) := Lib.hid (by
        rw [List.set_append_right _ _ (by rw [← HN.out]; omega), ← HN.out, List.set_append_right _ _ (by rw [List.length_replicate]; omega), List.length_replicate, show i - n - j = 0 by omega,
          show 9 - j = (9 - (j + 1)) + 1 by omega, List.replicate_succ (n := 9 - (j + 1)), List.set_cons_zero, List.replicate_succ' (n := j), List.append_assoc]
        rfl)
      rw [fin.out] at hs
      have hb' := hb.setCell (p := ⟨G, i, none⟩) hge (.int .u8 165)
      have hin : (i : Int) < (n : Int) + 9 := by omega
      have hin2 : i < n + 9 := by omega
      have hd1 : decide ((i : Int) < (n : Int) + 9) = true := decide_eq_true hin
      clear hk hb ll hi
      go_wp2_with fail
      go_roundw
      case rel => exact ⟨j + 1, by omega, by have := HI.out; go_num, hs, hb'⟩
      case measure => have := HI.out; simp [intOf]; omega
    · obtain rfl : j = 9 := by omega
      have hkf : Blk wr G .u8 5 (xs ++ mb9) := by simpa [mb9] using hk
      have hin : ¬ (i : Int) < (n : Int) + 9 := by omega
      have hin2 : ¬ i < n + 9 := by omega
      have hd1 : decide ((i : Int) < (n : Int) + 9) = false := decide_eq_false hin
      have hcut := fun W => cutH (P := Tryd.prog) W 22 5 Tryd.underlying22 size8L (some ⟨G, 0, none⟩) (n + 9) (n + 9) n (by omega)
      clear hk hi
      go_wp2_with fail
      go_ret
      exact ⟨G, by rw [← HN.out]; first | done | rfl, hge, hkf, hb⟩

set_option maxHeartbeats 4000000 in
set_option maxRecDepth 20000 in
theorem spared13_c (g : Nat) (a : Option Addr) (cap' : Nat) (xs : List Int) (w : World) (hk : Blk w g .u8 5 (xs ++ mb9)) (hx : Sl .u8 w a cap' xs) (hl : xs.length ≤ 140737488350000) :
    Calls Tryd.prog 38 #[.slice (some ⟨g, 0, none⟩) xs.length (xs.length + 9), .slice a xs.length cap'] w (fun e w' => e = .returned (.bool true) ∧ Below w.heap.size w w') := by
  have cm := same13_c _ _ _ _ _ _ w (room_sl hk hl) hx
  rw [show decide (xs = xs) = true from decide_eq_true rfl] at cm
  have cells : ∀ j, j < 9 → w.cell? ⟨g, xs.length + j, none⟩ = some (.int .u8 165) := fun j hj => by
    rw [hk.cell (xs.length + j) (by rw [List.length_append, mb9_len]; omega), nth_append_right]
    unfold mb9
    rw [nth_replicate _ _ _ hj]
  have hcut := fun W => cutH (P := Tryd.prog) W 22 5 Tryd.underlying22 size8L (some ⟨g, 0, none⟩) xs.length (xs.length + 9) (xs.length + 9) (by omega)
  obtain ⟨n, hn⟩ : ∃ n, n = xs.length := ⟨_, rfl⟩
  rw [← hn] at cm hl hcut ⊢
  have e9 : ((n + 9 : Nat) : Int) = (n : Int) + 9 := by omega
  rw [e9] at hcut
  have CELLS := Lib.hid cells
  have HN := Lib.hid hn
  clear cells hn e9
  go_enter Tryd.func38, Tryd.ntmps38
  go_wp2_with fail
  go_loopw [6] (fun t wr => ∃ j : Nat, j ≤ 9 ∧ t = .int .i64 ((n + j : Nat) : Int) ∧ wr = w) (fun t _ => n + 9 - (intOf t).toNat)
  case atStart => exact ⟨0, by omega, by rw [Nat.add_zero], rfl⟩
  case round =>
    obtain ⟨j, hj, rfl, hww⟩ := hrel
    subst hww
    obtain ⟨i, hi⟩ : ∃ i, i = n + j := ⟨_, rfl⟩
    rw [← hi]
    have HI := Lib.hid hi
    by_cases hlt : j < 9
    · have c0 := CELLS.out j hlt
      rw [← HN.out, ← hi] at c0
      have hin : (i : Int) < (n : Int) + 9 := by omega
      have hin2 : i < n + 9 := by omega
      have hd1 : decide ((i : Int) < (n : Int) + 9) = true := decide_eq_true hin
      clear hi cm hcut
      go_wp2_with fail
      go_roundw
      case rel => exact ⟨j + 1, by omega, by have := HI.out; go_num, by trivial⟩
      case measure => have := HI.out; simp [intOf]; omega
    · obtain rfl : j = 9 := by omega
      have hin : ¬ (i : Int) < (n : Int) + 9 := by omega
      have hin2 : ¬ i < n + 9 := by omega
      have hd1 : decide ((i : Int) < (n : Int) + 9) = false := decide_eq_false hin
      clear hi
      go_wp2_with fail
      refine cm.mono ?_; rintro e w1 ⟨rfl, hb⟩
      go_wp2_with fail
      go_ret
      exact ⟨rfl, hb.b⟩

end Go.Proofs.YtlolkighnnedfaaDoor
/- signetlaw13.heldApart by its contract. (Printed by gen_spah.py.) -/
set_option linter.unusedVariables false
set_option linter.unusedSimpArgs false
namespace Go.Proofs.YtlolkighnnedfaaDoor
open Go.RowKit Go.Sg
theorem info8h : (Tryd.prog.info? 5).map (fun i => (i.zero, i.size, i.bytes)) = some (some (.int .u8 0), 1, 1) := by kernel_rfl
theorem infoBh : (Tryd.prog.info? 22).map (fun i => (i.zero, i.size, i.bytes)) = some (some (.slice none 0 0), 1, 24) := by kernel_rfl
def HeldPost (B : Nat) (V : Nat → Value) (w : World) (e : Ending) (w' : World) : Prop := e = .returned (.bool true) ∧ FrV V 2 w w' ∧ Below B w w'
theorem FrV.after {V : Nat → Value} {n : Nat} {w w' w'' : World} (hb : Below w.heap.size w w') (h : FrV V n w' w'') : FrV V n w w'' :=
  ⟨Nat.le_trans hb.size h.1, fun c hc hj => (h.2 c (Nat.lt_of_lt_of_le hc hb.size) hj).trans (hb.block c hc)⟩
set_option maxHeartbeats 16000000 in
set_option maxRecDepth 20000 in
theorem heldApart_c (B : Nat) (l : Nat) (c : Nat) (V : Nat → Value) (A : Nat → List Int) (w : World) (hL : Lists B .u8 5 5 22 w (.slice (some ⟨l, 0, none⟩) 2 c) 2 V A) (hA : ∀ j, j < 2 → (A j).length ≤ 32) (he : A 0 = A 1) (hB : B ≤ w.heap.size) :
    Calls Tryd.prog 21 #[.slice (some ⟨l, 0, none⟩) 2 c] w (HeldPost B V w) := by
  have LENS := Lib.hid hA
  have HBW := Lib.hid hB
  have hB0 := hB
  obtain ⟨gq, e_, c0⟩ := hL.row.place (show 0 < 2 by omega)
  cases e_
  obtain ⟨gq, e_, c1⟩ := hL.row.place (show 1 < 2 by omega)
  cases e_
  obtain ⟨a0, d0, h0, s0, -⟩ := hL.fam.own (show 0 < 2 by omega)
  obtain ⟨a1, d1, h1, s1, -⟩ := hL.fam.own (show 1 < 2 by omega)
  rw [h0] at c0
  rw [h1] at c1
  have SM := fun (W : World) (hb : Below w.heap.size w W) => same13_c a0 a1 d0 d1 (A 0) (A 1) W (s0.below hb) (s1.below hb)
  rw [decide_eq_true he] at SM
  obtain ⟨n0, hn0⟩ : ∃ n, n = (A 0).length := ⟨_, rfl⟩
  obtain ⟨n1, hn1⟩ : ∃ n, n = (A 1).length := ⟨_, rfl⟩
  rw [← hn0] at c0 SM
  rw [← hn1] at c1 SM
  clear hA hB h0 h1 s0 s1 he hn0 hn1
  go_enter Tryd.func21, Tryd.ntmps21
  go_wp2_with fail
  refine wp_region_held_drew (S := fun W_ => W_.cell? ⟨l, 0, none⟩ = some (.slice a0 n0 d0) ∧ W_.cell? ⟨l, 1, none⟩ = some (.slice a1 n1 d1)) (by kernel_rfl) (⟨c0, c1⟩) (fun hS => ?_)
  have hb := below_drewN (Below.refl w.heap.size w) 1
  obtain ⟨wx, hw_⟩ : ∃ x, x = World.drew w := ⟨_, rfl⟩
  rw [show World.drewN w 1 = wx from hw_.symm] at hb
  rw [← hw_] at hS ⊢
  clear hw_
  have cm := SM wx hb
  refine wpAnyH_take (i := 0) (v := ?_) rfl (by kernel_rfl) (by kernel_rfl) (by kernel_rfl) (fun _ _ _ h => h) (Or.inl ⟨by rfl, ?_⟩) hS ?_
  rotate_left
  · intro w _; go_simp; try with_reducible rfl
  simp only [List.getElem_toArray, List.getElem_cons_zero, List.getElem_cons_succ, Act.put, List.setIfInBounds_toArray, List.set_cons_zero, List.set_cons_succ]
  refine wpAnyH_take (i := 1) (v := ?_) rfl (by kernel_rfl) (by kernel_rfl) (by kernel_rfl) (fun _ _ _ h => h) (Or.inl ⟨by rfl, ?_⟩) hS ?_
  rotate_left
  · intro w _; go_simp; try with_reducible rfl
  simp only [List.getElem_toArray, List.getElem_cons_zero, List.getElem_cons_succ, Act.put, List.setIfInBounds_toArray, List.set_cons_zero, List.set_cons_succ]
  refine wpAnyH_take (i := 2) (v := ?_) rfl (by kernel_rfl) (by kernel_rfl) (by kernel_rfl) (fun _ _ _ h => h) (Or.inl ⟨by rfl, ?_⟩) hS ?_
  rotate_left
  · intro W_ hW_; obtain ⟨c1_, c2_⟩ := hW_; go_simp; try with_reducible rfl
  simp only [List.getElem_toArray, List.getElem_cons_zero, List.getElem_cons_succ, Act.put, List.setIfInBounds_toArray, List.set_cons_zero, List.set_cons_succ]
  refine wpAnyH_take (i := 3) (v := ?_) rfl (by kernel_rfl) (by kernel_rfl) (by kernel_rfl) (fun _ _ _ h => h) (Or.inl ⟨by rfl, ?_⟩) hS ?_
  rotate_left
  · intro w _; go_simp; try with_reducible rfl
  simp only [List.getElem_toArray, List.getElem_cons_zero, List.getElem_cons_succ, Act.put, List.setIfInBounds_toArray, List.set_cons_zero, List.set_cons_succ]
  refine wpAnyH_take (i := 4) (v := ?_) rfl (by kernel_rfl) (by kernel_rfl) (by kernel_rfl) (fun _ _ _ h => h) (Or.inl ⟨by rfl, ?_⟩) hS ?_
  rotate_left
  · intro w _; go_simp; try with_reducible rfl
  simp only [List.getElem_toArray, List.getElem_cons_zero, List.getElem_cons_succ, Act.put, List.setIfInBounds_toArray, List.set_cons_zero, List.set_cons_succ]
  refine wpAnyH_take (i := 5) (v := ?_) rfl (by kernel_rfl) (by kernel_rfl) (by kernel_rfl) (fun _ _ _ h => h) (Or.inl ⟨by rfl, ?_⟩) hS ?_
  rotate_left
  · intro W_ hW_; obtain ⟨c1_, c2_⟩ := hW_; go_simp; try with_reducible rfl
  simp only [List.getElem_toArray, List.getElem_cons_zero, List.getElem_cons_succ, Act.put, List.setIfInBounds_toArray, List.set_cons_zero, List.set_cons_succ]
  refine wpAnyH_ready (rs := [6]) (by kernel_rfl) (by simp) ?_
  refine AllReadyH.cons rfl (fun K hK => ?_) AllReadyH.nil
  rw [if_pos (by rfl)]
  simp only [List.getElem_toArray, List.getElem_cons_zero, List.getElem_cons_succ]
  go_simp
  refine cm.mono ?_; rintro e_ wy ⟨rfl, hd_⟩
  dsimp only
  have hby := hb.trans (hd_.b.mono hb.size)
  have hS' : wy.cell? ⟨l, 0, none⟩ = some (.slice a0 n0 d0) ∧ wy.cell? ⟨l, 1, none⟩ = some (.slice a1 n1 d1) := ⟨(World.cell?_of_block (a := ⟨l, 0, none⟩) (hby.block l (World.block_lt_of_cell? w _ c0))).trans c0, (World.cell?_of_block (a := ⟨l, 1, none⟩) (hby.block l (World.block_lt_of_cell? w _ c1))).trans c1⟩
  refine hK.out _ _ hS' (fun hS => ?_)
  refine wpAnyH_take (i := 7) (v := ?_) rfl (by kernel_rfl) (by kernel_rfl) (by kernel_rfl) (fun _ _ _ h => h) (Or.inl ⟨by rfl, ?_⟩) hS ?_
  rotate_left
  · intro w _; go_simp; try with_reducible rfl
  simp only [List.getElem_toArray, List.getElem_cons_zero, List.getElem_cons_succ, Act.put, List.setIfInBounds_toArray, List.set_cons_zero, List.set_cons_succ]
  refine wpAnyH_done (by kernel_rfl) ?_ _
  replace hL := hL.keep hby
  have HBY := Lib.hid hby
  replace HBW : Hid (B ≤ wy.heap.size) := Lib.hid (Nat.le_trans HBW.out hby.size)
  have HB0 := Lib.hid hB0
  clear hS hS' cm SM c0 c1 hd_ hb hby hB0
  obtain ⟨f1, hf1⟩ : ∃ f : Nat → Int, f = fun (j : Nat) => 70 + (j : Int) := ⟨_, rfl⟩
  have HF1 : ∀ j, f1 j = 70 + (j : Int) := fun j => by rw [hf1]
  have hL0 := hL.congr (A' := fillF f1 A 0 0) (fun j _ => (fillF_start f1 A j).symm)
  clear hf1 hL
  go_wp2_with fail
  go_loopw [3] (fun t wr => ∃ i : Nat, i ≤ 2 ∧ t = .int .i64 (i : Int) ∧ Lists B .u8 5 5 22 wr (.slice (some ⟨l, 0, none⟩) 2 c) 2 V (fillF f1 A i 0) ∧ FrV V 2 wy wr ∧ Below B wy wr) (fun t _ => 2 - (intOf t).toNat)
  case atStart => exact ⟨0, by omega, rfl, hL0, .refl _ _ _, .refl _ _⟩
  case round =>
    clear hL0
    obtain ⟨i, hi, rfl, hL, hF, hB2⟩ := hrel
    by_cases hlt : i < 2
    · have hd : decide ((i : Int) < 2) = true := decide_eq_true (by omega)
      have hi10 : (i : Int) < 2 := by omega
      obtain ⟨zi, hzi⟩ : ∃ z, z = (A i).length := ⟨_, rfl⟩
      have HZI := Lib.hid hzi
      have zb : zi ≤ 32 := by rw [hzi]; exact LENS.out i hlt
      obtain ⟨ai, ci, hVi, _, _⟩ := hL.fam.own hlt
      rw [fillF_len _ _ _ _ _ (by omega), ← hzi] at hVi
      have HV := Lib.hid hVi
      obtain ⟨w13, rfl⟩ : ∃ x, x = wr := ⟨_, rfl⟩
      clear hzi hVi hd
      have hd : decide ((i : Int) < 2) = true := decide_eq_true (by omega)
      go_wp2_with fail
      go_loopw [4] (fun t wr => ∃ k : Nat, k ≤ zi ∧ t = .int .i64 (k : Int) ∧ Lists B .u8 5 5 22 wr (.slice (some ⟨l, 0, none⟩) 2 c) 2 V (fillF f1 A i k) ∧ FrV V 2 wy wr ∧ Below B wy wr) (fun t _ => zi - (intOf t).toNat)
      case atStart => exact ⟨0, by omega, rfl, hL, hF, hB2⟩
      case round =>
        clear hL hF hB2
        obtain ⟨k, hk, rfl, hL, hF, hB2⟩ := hrel
        obtain ⟨gl, e_, cell⟩ := hL.row.place hlt
        cases e_
        rw [HV.out] at cell
        by_cases hkl : k < zi
        · have hdk : decide ((k : Int) < (zi : Int)) = true := decide_eq_true (by omega)
          have hkz : (k : Int) < (zi : Int) := by omega
          obtain ⟨g, c2, hv2, hfr, hcl, hg, hL2⟩ := hL.put (by decide) hlt (j := k) (by rw [fillF_len _ _ _ _ _ (by rw [← HZI.out]; omega), ← HZI.out]; exact hkl) (f1 i)
          rw [HV.out] at hv2
          simp only [Value.slice.injEq] at hv2
          obtain ⟨rfl, _, rfl⟩ := hv2
          have hL3 := hL2.congr (A' := fillF f1 A i (k + 1)) (fun j _ => fillF_step f1 A i k (by rw [← HZI.out]; exact hkl) j)
          have hF3 := hF.grown (grownBy_set _ ⟨g, k, none⟩ (.int .u8 (f1 i))) (fun g' hg' => .inr ⟨i, hlt, by cases hg'; rw [HV.out]; rfl⟩)
          have hB3 := hB2.setCell (p := ⟨g, k, none⟩) hg (.int .u8 (f1 i))
          rw [HF1 i] at hL3 hF3 hB3
          clear hL hL2 hF hB2
          go_wp2_with fail
          go_roundw
          case rel => exact ⟨k + 1, by omega, by go_num, hL3, hF3, hB3⟩
          case measure => simp [intOf]; omega
        · obtain rfl : zi = k := by omega
          have hdk : decide ((zi : Int) < (zi : Int)) = false := by simp
          have hL3 := hL.congr (A' := fillF f1 A (i + 1) 0) (fun j _ => by rw [HZI.out]; exact fillF_next f1 A i j)
          go_wp2_with fail
          go_roundw
          case rel => exact ⟨i + 1, by omega, by go_num, hL3, hF, hB2⟩
          case measure => simp [intOf]; omega
    · have hd : decide ((i : Int) < 2) = false := decide_eq_false (by omega)
      obtain rfl : i = 2 := by omega
      rw [show ((2 : Nat) : Int) = 2 from rfl]
      clear hd
      have hd : decide ((2 : Int) < 2) = false := by decide
      obtain ⟨A2, hA2⟩ : ∃ f : Nat → List Int, f = fun j => List.replicate (A j).length (70 + (j : Int)) := ⟨_, rfl⟩
      have hLA := hL.congr (A' := A2) (fun j hj => by unfold fillF; rw [if_pos hj, HF1, hA2])
      have HA2 := Lib.hid hA2
      have lA2 : Hid (∀ j, j < 2 → (A2 j).length ≤ 32) := Lib.hid fun j hj => by rw [hA2]; simp only [List.length_replicate]; exact LENS.out j hj
      obtain ⟨w14, rfl⟩ : ∃ x, x = wr := ⟨_, rfl⟩
      obtain ⟨S, hS⟩ : ∃ x, x = w14.heap.size := ⟨_, rfl⟩
      have fm := hLA.fam.fam (S := S) (Nat.le_of_eq hS.symm)
      have fm0 := fm.congr (U' := V) (A' := A2) (X' := growF (fun j => 80 + (j : Int)) 70 0 0) (fun _ _ => rfl) (fun j _ => (growF_start _ _ j).symm) (fun _ _ => rfl)
      have rw0 := hLA.row
      have hSw : S ≤ w14.heap.size := Nat.le_of_eq hS
      have hwS : wy.heap.size ≤ S := by rw [hS]; exact hF.1
      have LT := Lib.hid hLA.row.lt
      have HLS : Hid (∀ g, (Value.slice (some ⟨l, 0, none⟩) 2 c).ownBlock = some g → g < S) := Lib.hid fun g hg => by rw [hS]; exact (LT.out g hg).2
      clear hL hLA fm hA2 hS LENS LT HF1
      go_wp2_with fail
      go_loopw [5, 6] (fun mo t wr => ∃ (j0 : Nat) (U : Nat → Value), j0 ≤ 2 ∧ t = .int .i64 (j0 : Int) ∧ Fam S B .u8 5 5 wr 2 V U A2 (growF (fun j => 80 + (j : Int)) 70 j0 0) ∧ Hid (∀ j, j0 ≤ j → U j = V j) ∧ NewV S 22 wr mo ((List.range j0).map U) ∧ NewV B 22 wr (.slice (some ⟨l, 0, none⟩) 2 c) ((List.range 2).map V) ∧ FrV V 2 wy wr ∧ Below B wy wr ∧ S ≤ wr.heap.size) (fun _ t _ => 2 - (intOf t).toNat)
      case atStart => exact ⟨0, V, by omega, rfl, fm0, Lib.hid (fun _ _ => rfl), .nil _ _ _, rw0, hF, hB2, hSw⟩
      case round =>
        clear fm0 rw0 hF hB2 hSw hd
        obtain ⟨j0, U, hi, rfl, fm, hUV, hM, hR, hF, hB2, hSw⟩ := hrel
        obtain ⟨amo, cmo, rfl⟩ := hM.sl
        rw [List.length_map, List.length_range] at hM ⊢
        by_cases hlt : j0 < 2
        · have hd : decide ((j0 : Int) < 2) = true := decide_eq_true (by omega)
          have hi10 : (j0 : Int) < 2 := by omega
          obtain ⟨gl, e_, cell⟩ := hR.place hlt
          cases e_
          obtain ⟨ai, ci, hVi, _, _⟩ := (fm.ext j0 hlt).sa
          rw [hVi] at cell
          obtain ⟨us, hus⟩ : ∃ us, us = (List.range j0).map U := ⟨_, rfl⟩
          rw [← hus] at hM
          have HUS := Lib.hid hus
          have lus : Hid (us.length = j0) := Lib.hid (by rw [hus]; simp)
          obtain ⟨w15, rfl⟩ : ∃ x, x = wr := ⟨_, rfl⟩
          clear hus
          go_wp2_with fail
          go_loopw [7, 8] (fun v t wr => ∃ (k : Nat) (U2 : Nat → Value), k ≤ 70 ∧ t = .int .i64 (k : Int) ∧ v = U2 j0 ∧ Fam S B .u8 5 5 wr 2 V U2 A2 (growF (fun j => 80 + (j : Int)) 70 j0 k) ∧ Hid (∀ j, j0 < j → U2 j = V j) ∧ Hid (∀ j, j < j0 → U2 j = U j) ∧ NewV S 22 wr (.slice amo j0 cmo) us ∧ NewV B 22 wr (.slice (some ⟨l, 0, none⟩) 2 c) ((List.range 2).map V) ∧ FrV V 2 wy wr ∧ Below B wy wr ∧ S ≤ wr.heap.size) (fun _ t _ => 70 - (intOf t).toNat)
          case atStart => exact ⟨0, U, by omega, rfl, by rw [hUV.out j0 (Nat.le_refl _), hVi], fm, Lib.hid (fun j hj => hUV.out j (by omega)), Lib.hid (fun _ _ => rfl), hM, hR, hF, hB2, hSw⟩
          case round =>
            clear fm hM hR hF hB2 hSw cell
            obtain ⟨k, U2, hk, rfl, rfl, fm, hUV2, hUU, hM, hR, hF, hB2, hSw⟩ := hrel
            have ex := fm.ext j0 hlt
            obtain ⟨av, cv, hv, _⟩ := ex.nx.sl
            rw [growF_at] at hv
            obtain ⟨lv, hlv⟩ : ∃ x, x = (A2 j0 ++ List.replicate k (80 + (j0 : Int))).length := ⟨_, rfl⟩
            rw [← hlv] at hv
            have lvb : lv ≤ 32 + 70 := by rw [hlv, List.length_append, List.length_replicate]; have := lA2.out j0 hlt; omega
            rw [hv]
            have HLV := Lib.hid hlv
            have HVV := Lib.hid hv
            have HOW := Lib.hid ex.own
            have HOL := Lib.hid ex.old
            clear hv hlv ex
            by_cases hkl : k < 70
            · have hdk : decide ((k : Int) < 70) = true := decide_eq_true (by omega)
              have al := (Below.refl wr.heap.size wr).alloc (Nat.le_refl _) (.cells #[.int .u8 (80 + (j0 : Int))] 5)
              have as1 : (wr.alloc (.cells #[.int .u8 (80 + (j0 : Int))] 5)).heap.size = wr.heap.size + 1 := by simp
              have fm1 := fm.keep al
              have hM1 := hM.keep al
              have hR1 := hR.keep al
              have hF1 := hF.below al
              have hB1 := hB2.trans (al.mono (Nat.le_trans HBW.out (Nat.le_trans hwS hSw)))
              have nx := (fm1.ext j0 hlt).nx
              rw [growF_at, HVV.out] at nx
              have hlen : (A2 j0 ++ List.replicate k (80 + (j0 : Int))).length ≤ 32 + 70 := by rw [← HLV.out]; exact lvb
              have hBS : B ≤ wr.heap.size + 1 := by have := HBW.out; omega
              clear fm hM hR hF hB2
              go_wp2_with (at_builtin; refine wpList_append_keepA _ rfl _ _ 22 rfl B 5 5 .u8 1 Tryd.underlying22 info8h _ _ rfl nx _ _ 1 [80 + (j0 : Int)] rfl rfl (by simp) (cells_one _ _ _ _ _ rfl) (by simp only [List.length_singleton]; omega) (by simp only [List.length_singleton]; omega) (by rw [as1]; omega) ?_)
              intro u' w16 n1 n0 hg16 ho16
              have fm16 := fm1.append hlt (u' := u') (ys := [80 + (j0 : Int)]) (by rw [growF_at, List.append_assoc]; exact n1) (by rw [growF_at, HVV.out]; exact n0) (by rw [HVV.out]; exact hg16) (by rw [HVV.out, as1]; exact ho16) (by rw [as1]; omega)
              have fm17 := fm16.congr (U' := fun m => if m = j0 then u' else U2 m) (A' := A2) (X' := growF (fun j => 80 + (j : Int)) 70 j0 (k + 1)) (fun _ _ => rfl) (fun j _ => growF_step (fun j => 80 + (j : Int)) 70 j0 k j) (fun _ _ => rfl)
              have hM16 := hM1.keptN nx (by decide) hg16
              have hR16 := hR1.keptN nx (by decide) hg16
              have hF16 := hF1.grown hg16 (fun g hg => by
                rcases HOW.out g (by rw [HVV.out]; exact hg) with h1 | h1
                · exact .inr ⟨j0, hlt, h1⟩
                · exact .inl (by omega))
              have hB16 := hB1.grown hg16 (by rw [as1]; exact hBS) (fun g hg => (nx.lt g hg).1)
              have hz16 := hg16.size
              clear fm1 fm16 hM1 hR1 hF1 hB1 nx n1 n0 hg16 ho16 al
              go_wp2_with fail
              go_roundw
              case rel =>
                exact ⟨k + 1, fun m => if m = j0 then u' else U2 m, by omega, by go_num, by simp, fm17, Lib.hid (fun j hj => by simp only [show ¬ j = j0 by omega, if_false]; exact hUV2.out j hj), Lib.hid (fun j hj => by simp only [show ¬ j = j0 by omega, if_false]; exact hUU.out j hj), hM16, hR16, hF16, hB16, by omega⟩
              case measure => simp [intOf]; omega
            · obtain rfl : k = 70 := by omega
              rw [show ((70 : Nat) : Int) = 70 from rfl]
              have hdk : decide ((70 : Int) < 70) = false := by decide
              have fm2 := fm.congr (U' := U2) (A' := A2) (X' := growF (fun j => 80 + (j : Int)) 70 (j0 + 1) 0) (fun _ _ => rfl) (fun j _ => growF_next _ _ j0 j) (fun _ _ => rfl)
              have al := (Below.refl wr.heap.size wr).alloc (Nat.le_refl _) (.cells #[.slice av lv cv] 22)
              have as1 : (wr.alloc (.cells #[.slice av lv cv] 22)).heap.size = wr.heap.size + 1 := by simp
              have fm3 := fm2.keep al
              have hM3 := hM.keep al
              have hR3 := hR.keep al
              have hF3 := hF.below al
              have hB3 := hB2.trans (al.mono (Nat.le_trans HBW.out (Nat.le_trans hwS hSw)))
              have hBS : B ≤ wr.heap.size + 1 := by have := HBW.out; omega
              clear fm fm2 hM hR hF hB2 hkl
              go_wp2_with (at_builtin; refine wpList_append_newV _ rfl _ _ 25 rfl S 22 24 Tryd.underlying25 infoBh _ us rfl hM3 _ 1 (.slice av lv cv) ⟨_, _, _, rfl⟩ rfl (cell_new1 _ _ _ _) (by rw [lus.out]; omega) (by rw [lus.out]; omega) (by rw [as1]; omega) ?_)
              intro mo' w17 hM17 hg17 ho17
              have hMl : ∀ g, (Value.slice amo j0 cmo).ownBlock = some g → S ≤ g := fun g hg => (hM3.lt g hg).1
              have fm17 := fm3.grown hg17 (fun j hj g hg e => by
                have h1 := ((fm3.ext j hj).old g hg).1
                have h2 := hMl g e.symm
                omega) (fun j hj g hg => hM3.aside' (fm3.ext j hj).nx (by decide) g hg)
              have hR17 := hR3.kept hg17 (.inr fun e => by
                have h2 := hMl l (e.symm.trans rfl)
                have h3 := HLS.out l rfl
                omega)
              have hF17 := hF3.grown hg17 (fun g hg => .inl (Nat.le_trans hwS (hMl g hg)))
              have hB17 := hB3.grown hg17 (by rw [as1]; exact hBS) (fun g hg => Nat.le_trans HBW.out (Nat.le_trans hwS (hMl g hg)))
              have hz17 := hg17.size
              have el : us ++ [Value.slice av lv cv] = (List.range (j0 + 1)).map U2 := by
                rw [range_push (V := U) (V' := U2) (v := .slice av lv cv) hUU.out HVV.out, ← HUS.out]
              rw [el] at hM17
              clear fm3 hM3 hR3 hF3 hB3 hg17 al
              go_wp2_with fail
              go_roundw
              case rel => exact ⟨j0 + 1, U2, by omega, by go_num, fm17, Lib.hid (fun j hj => hUV2.out j (by omega)), hM17, hR17, hF17, hB17, by omega⟩
              case measure => simp [intOf]; omega
        · have hd : decide ((j0 : Int) < 2) = false := decide_eq_false (by omega)
          obtain rfl : j0 = 2 := by omega
          rw [show ((2 : Nat) : Int) = 2 from rfl]
          clear hd
          have hd : decide ((2 : Int) < 2) = false := by decide
          obtain ⟨w18, rfl⟩ : ∃ x, x = wr := ⟨_, rfl⟩
          have FM := Lib.hid fm
          have ROWL : Hid (∀ i, i < 2 → ∃ g, ((some ⟨l, 0, none⟩) : Option Addr) = some ⟨g, 0, none⟩ ∧ w18.cell? ⟨g, i, none⟩ = some (V i)) := Lib.hid fun i hi => hR.place hi
          obtain ⟨gm, rfl, _⟩ := hM.place (show 0 < 2 by omega)
          have ROWM : Hid (∀ i, i < 2 → w18.cell? ⟨gm, i, none⟩ = some (U i)) := Lib.hid fun i hi => by
            obtain ⟨_, e, c_⟩ := hM.place hi
            cases e
            exact c_
          have FF := Lib.hid hF
          have BB := Lib.hid hB2
          clear fm hM hR hUV hF hB2 hlt hi
          go_wp2_with fail
          go_loopw [9] (fun t wr => ∃ i : Nat, i ≤ 2 ∧ t = .int .i64 (i : Int) ∧ Dr w18 wr) (fun t _ => 2 - (intOf t).toNat)
          case atStart => exact ⟨0, by omega, rfl, .refl _⟩
          case round =>
            obtain ⟨i, hi, rfl, nd, rfl⟩ := hrel
            clear hd
            by_cases hlt : i < 2
            · have hd : decide ((i : Int) < 2) = true := decide_eq_true (by omega)
              have hi10 : (i : Int) < 2 := by omega
              obtain ⟨ai, ci, hVi, sV, -⟩ := (FM.out.ext i hlt).sa
              obtain ⟨au, cu, hUi, sU, -⟩ := (FM.out.ext i hlt).nx.at_own
              obtain ⟨li, hli⟩ : ∃ z, z = (A i).length := ⟨_, rfl⟩
              have eA2 : A2 i = List.replicate li (70 + (i : Int)) := by rw [HA2.out, hli]
              have eX : growF (fun j => 80 + (j : Int)) 70 2 0 i = List.replicate 70 (80 + (i : Int)) := by unfold growF; rw [if_pos hlt]
              have lib : li ≤ 32 := by have := lA2.out i hlt; rw [eA2, List.length_replicate] at this; exact this
              rw [eA2, eX, List.length_append, List.length_replicate, List.length_replicate] at hUi
              rw [eA2, eX] at sU
              rw [eA2] at sV
              rw [eA2, List.length_replicate] at hVi
              obtain ⟨gl, e_, cL⟩ := ROWL.out i hlt
              cases e_
              have cM := ROWM.out i hlt
              rw [hVi] at cL
              rw [hUi] at cM
              have SV := Lib.hid sV
              have SU := Lib.hid sU
              clear hVi hUi hli eA2 eX sV sU
              go_wp2_with fail
              go_loopw [10] (fun t wr => ∃ q : Nat, q ≤ li + 70 ∧ t = .int .i64 (q : Int) ∧ Dr w18 wr) (fun t _ => li + 70 - (intOf t).toNat)
              case atStart => exact ⟨0, by omega, rfl, nd, rfl⟩
              case round =>
                obtain ⟨q, hq, rfl, nd3, rfl⟩ := hrel
                by_cases hql : q < li + 70
                · have hdq : decide ((q : Int) < ((li + 70 : Nat) : Int)) = true := decide_eq_true (by omega)
                  obtain ⟨bu, ou, rfl, hcu⟩ := SU.out.cells (by rw [List.length_append, List.length_replicate, List.length_replicate]; omega)
                  have cU := hcu q (by rw [List.length_append, List.length_replicate, List.length_replicate]; omega)
                  by_cases hlo : q < li
                  · obtain ⟨bv, ov, rfl, hcv⟩ := SV.out.cells (by rw [List.length_replicate]; omega)
                    have cV := hcv q (by rw [List.length_replicate]; omega)
                    rw [grown_lo hlo] at cU
                    rw [rep_nth hlo] at cV
                    have hkz : (q : Int) < (li : Int) := by omega
                    have hd2 : decide ((q : Int) < (li : Int)) = true := decide_eq_true hkz
                    have hd3 : decide ((li : Int) ≤ (q : Int)) = false := decide_eq_false (by omega)
                    have hd4 : decide (li ≤ q) = false := decide_eq_false (by omega)
                    have hn1 : ¬ li ≤ q := by omega
                    have hn2 : ¬ (li : Int) ≤ (q : Int) := by omega
                    have hg1 : ((q : Int) ≥ (li : Int)) = False := eq_false (by omega)
                    clear hcu hcv
                    go_wp2_with fail
                    go_roundw
                    case rel => exact ⟨q + 1, by omega, by go_num, (by repeat (first | exact Dr.refl _ | apply Dr.drewN))⟩
                    case measure => simp [intOf]; omega
                  · rw [grown_hi (by omega) (by omega)] at cU
                    have hkz : ¬ (q : Int) < (li : Int) := by omega
                    have hd2 : decide ((q : Int) < (li : Int)) = false := decide_eq_false hkz
                    have hd3 : decide ((li : Int) ≤ (q : Int)) = true := decide_eq_true (by omega)
                    clear hcu
                    go_wp2_with fail
                    go_roundw
                    case rel => exact ⟨q + 1, by omega, by go_num, (by repeat (first | exact Dr.refl _ | apply Dr.drewN))⟩
                    case measure => simp [intOf]; omega
                · obtain rfl : q = li + 70 := by omega
                  have hdq : decide (((li + 70 : Nat) : Int) < ((li + 70 : Nat) : Int)) = false := by simp
                  go_wp2_with fail
                  go_roundw
                  case rel => exact ⟨i + 1, by omega, by go_num, (by repeat (first | exact Dr.refl _ | apply Dr.drewN))⟩
                  case measure => simp [intOf]; omega
            · have hd : decide ((i : Int) < 2) = false := decide_eq_false (by omega)
              obtain rfl : i = 2 := by omega
              rw [show ((2 : Nat) : Int) = 2 from rfl]
              clear hd
              have hd : decide ((2 : Int) < 2) = false := by decide
              go_wp2_with fail
              go_ret
              exact ⟨rfl, (FrV.after HBY.out FF.out).drewN _, (HBY.out.mono HB0.out).trans (below_drewN BB.out _)⟩
end Go.Proofs.YtlolkighnnedfaaDoor
