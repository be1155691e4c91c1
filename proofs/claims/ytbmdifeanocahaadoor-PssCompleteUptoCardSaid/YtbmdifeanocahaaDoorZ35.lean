import Derived.Test.YtbmdifeanocahaaDoorZ34
import Derived.Lib.SlBytesConst
/- signetlaw10.awake by its contract. -/
set_option linter.unusedVariables false
set_option linter.unusedSimpArgs false
namespace Go.Proofs.YtbmdifeanocahaaDoor
open Go.RowKit Go.Sg

theorem cells_marked (k : IntKind) (w : World) (e : TypeId) (xs : List Int) (C : Array Value) (z : Nat × Nat) (hC : C = (xs.map (Value.int k)).toArray) (n : Nat) (hn : n = w.heap.size) : Cells k (w.alloc (.cells C e z)) (some ⟨n, 0, none⟩) xs := by
  subst hn hC
  intro _
  refine ⟨_, 0, rfl, fun j hj => ?_⟩
  have h : (w.alloc (.cells (xs.map (Value.int k)).toArray e z)).heap[w.heap.size]? = some (.cells (xs.map (Value.int k)).toArray e z) := by
    show (w.heap.push _)[w.heap.size]? = _
    simp
  rw [Nat.zero_add, cell_of_row (w.alloc (.cells (xs.map (Value.int k)).toArray e z)) w.heap.size j _ e z h]
  simp [hj, nth_get _ _ hj]

set_option maxHeartbeats 8000000 in
set_option maxRecDepth 20000 in
theorem awake_c (w : World) (ht : ShaTabs w) : Calls Tryd.prog 35 #[] w (TellPost true w) := by
  have hh : IsHash 1 := .inl rfl
  obtain ⟨J, hJ⟩ : ∃ J : List Int, J = [97, 98, 99] := ⟨_, rfl⟩
  have jl : J.length = 3 := by rw [hJ]; rfl
  have uJ : U8 J := by rw [hJ]; exact .of_mem (by omega) (by decide)
  obtain ⟨F, hF⟩ : ∃ J : List Int, J = [102, 111, 111] := ⟨_, rfl⟩
  have fl : F.length = 3 := by rw [hF]; rfl
  have uF : U8 F := by rw [hF]; exact .of_mem (by omega) (by decide)
  have cv := fun W => Lib.run_convert_bytes_const (P := Tryd.prog) W 23 5 #[.int .u8 97, .int .u8 98, .int .u8 99] 3 3 Tryd.underlying23 Tryd.underlying5
  have cv2 := fun W => Lib.run_convert_bytes_const (P := Tryd.prog) W 23 5 #[.int .u8 102, .int .u8 111, .int .u8 111] 3 3 Tryd.underlying23 Tryd.underlying5
  simp only [List.size_toArray, List.length_cons, List.length_nil, Nat.zero_add, Nat.reduceAdd] at cv cv2
  have lay : ∀ W : World, Sl .u8 (W.alloc (.cells #[.int .u8 97, .int .u8 98, .int .u8 99] 5 (3, 4))) (some ⟨W.heap.size, 0, none⟩) 3 J ∧ Below W.heap.size W (W.alloc (.cells #[.int .u8 97, .int .u8 98, .int .u8 99] 5 (3, 4))) :=
    fun W => ⟨⟨by omega, by omega, cells_marked .u8 W 5 J _ _ (by rw [hJ]; rfl) _ rfl⟩, (Below.refl _ _).alloc (Nat.le_refl _) _⟩
  have lay2 : ∀ W : World, Sl .u8 (W.alloc (.cells #[.int .u8 102, .int .u8 111, .int .u8 111] 5 (3, 4))) (some ⟨W.heap.size, 0, none⟩) 3 F ∧ Below W.heap.size W (W.alloc (.cells #[.int .u8 102, .int .u8 111, .int .u8 111] 5 (3, 4))) :=
    fun W => ⟨⟨by omega, by omega, cells_marked .u8 W 5 F _ _ (by rw [hF]; rfl) _ rfl⟩, (Below.refl _ _).alloc (Nat.le_refl _) _⟩
  have hc : Calls Tryd.prog 14 #[.int .i64 1, .slice (some ⟨w.heap.size + 1, 0, none⟩) 1 1] ((w.alloc (.cells #[.int .u8 97, .int .u8 98, .int .u8 99] 5 (3, 4))).alloc (.cells #[.slice (some ⟨w.heap.size, 0, none⟩) 3 3] 23)) (BytesPost (sha 1 J) w) := by
    have c := Sum1_c 1 (some ⟨w.heap.size, 0, none⟩) 3 J _ (lay w).1 uJ (by omega) (ht.below (lay w).2)
    have e : (w.alloc (.cells #[.int .u8 97, .int .u8 98, .int .u8 99] 5 (3, 4))).heap.size = w.heap.size + 1 := by simp
    rw [e, jl] at c
    refine c.mono ?_
    rintro e' w' ⟨v, rfl, hv, hb⟩
    exact ⟨v, rfl, hv.mono (by rw [e]; omega), (lay w).2.trans (hb.mono (by rw [e]; omega))⟩
  have hm : ∀ W : World, ShaTabs W → Calls Tryd.prog 67 #[.int .i64 1, .slice (some ⟨W.heap.size, 0, none⟩) 3 3, .int .i64 3] (W.alloc (.cells #[.int .u8 102, .int .u8 111, .int .u8 111] 5 (3, 4))) (fun e w' => ∃ v, e = .returned (.tuple #[v, .int .i64 0]) ∧ New W.heap.size .u8 5 w' v [59, 218, 186] ∧ Below W.heap.size W w') := by
    intro W t
    have c := pMask_c 1 3 (some ⟨W.heap.size, 0, none⟩) 3 F _ (lay2 W).1 uF (by omega) (t.below (lay2 W).2)
    have e : (W.alloc (.cells #[.int .u8 102, .int .u8 111, .int .u8 111] 5 (3, 4))).heap.size = W.heap.size + 1 := by simp
    have e1 : mres 1 F 3 = [59, 218, 186] := by
      unfold mres
      rw [if_pos ⟨hh, by omega, by omega⟩, hF]; exact mask_foo
    have e2 : mcode 1 3 = 0 := by unfold mcode; rw [if_pos hh, if_pos ⟨by omega, by omega⟩]
    unfold MaskPost at c
    rw [fl, e1, e2] at c
    refine c.mono ?_
    rintro e' w' ⟨v, rfl, hv, hb⟩
    exact ⟨v, rfl, hv.mono (by rw [e]; omega), (lay2 W).2.trans (hb.mono (by rw [e]; omega))⟩
  obtain ⟨D, hD⟩ : ∃ D, D = sha 1 J := ⟨_, rfl⟩
  have lD : D.length = 32 := by rw [hD, sha_len]; rfl
  have uD : U8 D := by rw [hD]; exact sha_u8 _ _
  rw [← hD] at hc
  have fits : encFits 1 D D 600 := ⟨by rw [lD]; rfl, by rw [lD]; decide⟩
  have hE1 : ecode 1 D D 600 = 0 := by unfold ecode; rw [if_pos hh, if_pos ⟨by omega, by omega⟩]; exact if_pos fits
  have hE2 : eres 1 D D 600 = encOf 1 D D 600 := by unfold eres; exact if_pos ⟨hh, ⟨by omega, by omega⟩, fits⟩
  obtain ⟨M, hM⟩ : ∃ M, M = encOf 1 D D 600 := ⟨_, rfl⟩
  have lM : M.length = 75 := by rw [hM, encOf_len fits]; rfl
  have uM : U8 M := by rw [hM]; exact encOf_u8 uD
  have eM : M = encBlk 1 D D 600 42 ++ (encSum 1 D D ++ [188]) := hM
  have lB : (encBlk 1 D D 600 42).length = 42 := encBlk_len (by omega)
  have lS : (encSum 1 D D).length = 32 := encSum_len _ _ _
  have m74 : nth M 74 = 188 := by
    have h1 := nth_append_right (encBlk 1 D D 600 42) (encSum 1 D D ++ [188]) 32
    have h2 := nth_append_right (encSum 1 D D) [188] 0
    rw [lB] at h1
    rw [lS] at h2
    rw [eM]
    exact h1.trans h2
  have hH1 : decide (holdsOf 1 D M 600) = true := decide_eq_true (by rw [hM]; exact holds_enc hh D D 600 (by omega) fits lD uD)
  have um3 := uM 3
  obtain ⟨x, hx⟩ : ∃ x, x = nth M 3 := ⟨_, rfl⟩
  rw [← hx] at um3
  have HX := Lib.hid hx
  obtain ⟨v3, hv3⟩ : ∃ v, v = (x + 1) % 256 := ⟨_, rfl⟩
  have hw3 : IntKind.u8.wrap (x + 1) = v3 := by rw [IntKind.wrap_u8', hv3]
  have hm3 : (x + 1) % 256 = v3 := hv3.symm
  have v0 : 0 ≤ v3 ∧ v3 ≤ 255 := by omega
  have vne : v3 ≠ x := by omega
  have hH2 : decide (holdsOf 1 D (M.set 3 v3) 600) = false := decide_eq_false fun k => by
    have k2 := k.2.2.2.2.2
    exact bump_not hh D D 600 42 3 v3 lD (by decide) uD (by omega) (by decide) v0 (by rw [← eM, ← hx]; exact vne) (by rw [← eM]; exact k2)
  have lM2 : (M.set 3 v3).length = 75 := by rw [List.length_set]; exact lM
  have uM2 : U8 (M.set 3 v3) := InR.set uM 3 v0.1 v0.2
  have pE := fun W a1 c1 (s : Sl .u8 W a1 c1 D) (t : ShaTabs W) => pEncode_c 1 600 a1 a1 c1 c1 D D W s s uD uD (by omega) t
  have pH := fun W a1 c1 a2 c2 (s : Sl .u8 W a1 c1 D) (s2 : Sl .u8 W a2 c2 M) (t : ShaTabs W) => pHolds_c 1 600 a1 a2 c1 c2 D M W s s2 uD uM (by omega) t
  have pH2 := fun W a1 c1 a2 c2 (s : Sl .u8 W a1 c1 D) (s2 : Sl .u8 W a2 c2 (M.set 3 v3)) (t : ShaTabs W) => pHolds_c 1 600 a1 a2 c1 c2 D (M.set 3 v3) W s s2 uD uM2 (by omega) t
  unfold EncPost at pE
  rw [hE1, hE2, ← hM, lD] at pE
  rw [hH1, lD, lM] at pH
  rw [hH2, lD, lM2] at pH2
  have top := ht.top
  clear hJ jl hF fl lay lay2 hD fits hE1 hE2 hM uM eM lB lS hH1 hH2 lM2 uM2 hh hv3 vne hx
  have LM := Lib.hid lM
  go_enter Tryd.func35, Tryd.ntmps35
  go_wp2_with fail
  refine hc.mono ?_; rintro e w1 ⟨v, rfl, nD, hb1⟩
  obtain ⟨aD, cD, rfl, sD⟩ := nD.sl
  have ht1 := ht.below hb1
  rw [lD]
  clear nD hc
  go_wp2_with fail
  refine (pE w1 aD cD sD ht1).mono ?_; rintro e w2 ⟨v, rfl, nM, hb2⟩
  obtain ⟨G, C, rfl, hgB, pre⟩ := nM.pre (by omega)
  rw [LM.out]
  have sD2 := sD.below hb2
  have apD := sD.apart hgB
  have ht2 := ht1.below hb2
  have hB2 := hb1.trans (hb2.mono hb1.size)
  have b1s := hb1.size
  have tG : shaTop ≤ G := Nat.le_trans top (Nat.le_trans b1s hgB)
  have mk := hm w2 ht2
  clear nM pE sD hb2 hb1 ht1 lM hm
  go_wp2_with fail
  refine mk.mono ?_; rintro e w3 ⟨v, rfl, nF, hb3⟩
  obtain ⟨aF, cF, rfl, sF⟩ := nF.sl
  have pre3 := pre.keep hb3
  have sD3 := sD2.below hb3
  have ht3 := ht2.below hb3
  have hB3 := hB2.trans (hb3.mono hB2.size)
  obtain ⟨bF, oF, rfl, kF⟩ := sF.cells (by simp)
  have q0 := kF 0 (by simp)
  have q1 := kF 1 (by simp)
  have q2 := kF 2 (by simp)
  have q3 := pre3.cell 74 (by rw [LM.out]; omega)
  rw [m74] at q3
  have q4 := pre3.cell 3 (by rw [LM.out]; omega)
  rw [← HX.out] at q4
  have f4 := pre3.free 3
  rw [Nat.add_zero] at q0
  change w3.cell? ⟨bF, oF, none⟩ = some (.int .u8 59) at q0
  change w3.cell? ⟨bF, oF + 1, none⟩ = some (.int .u8 218) at q1
  change w3.cell? ⟨bF, oF + 2, none⟩ = some (.int .u8 186) at q2
  have hl := pH w3 aD cD (some ⟨G, 0, none⟩) C sD3 pre3.sl ht3
  have eL : ([59, 218, 186] : List Int).length = 3 := rfl
  rw [eL]
  clear nF pre mk sD2 ht2 hb3 hB2 kF sF pH
  go_wp2_with fail
  refine hl.mono ?_; rintro e w4 ⟨rfl, hb4⟩
  have pre4 := pre3.keep hb4
  have sD4 := sD3.below hb4
  have ht4 := ht3.below hb4
  have hB4 := hB3.trans (hb4.mono hB3.size)
  have r4 := pre4.cell 3 (by rw [LM.out]; omega)
  rw [← HX.out] at r4
  have g4 := pre4.free 3
  have p5 := pre4.set 3 v3
  have hg5 := grownBy_set w4 ⟨G, 3, none⟩ (.int .u8 v3)
  have sD5 := sD4.grown' hg5 (fun b off ha hp e => apD b off ha hp (Option.some.inj e))
  have ht5 := ht4.grown hg5 tG
  have hB5 := hB4.setCell (p := ⟨G, 3, none⟩) (by show w.heap.size ≤ G; omega) (.int .u8 v3)
  have hl2 := pH2 _ aD cD (some ⟨G, 0, none⟩) C sD5 p5.sl ht5
  clear hl pre3 sD3 ht3 hb4 hB3 q0 q1 q2 q3 q4 f4 sD4 ht4 hg5 pH2
  go_wp2_with fail
  refine hl2.mono ?_; rintro e w6 ⟨rfl, hb6⟩
  go_wp2_with fail
  go_ret
  exact ⟨rfl, hB5.trans (hb6.mono hB5.size)⟩
end Go.Proofs.YtbmdifeanocahaaDoor
