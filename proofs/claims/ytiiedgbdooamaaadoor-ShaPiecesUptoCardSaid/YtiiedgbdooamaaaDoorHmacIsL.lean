/- signetlaw5: started, HmacIs, their walks. (Printed by gen_hmacis.py.) -/
import Derived.Test.YtiiedgbdooamaaaDoorHmacA
import Derived.Test.YtiiedgbdooamaaaDoorOpen
import Derived.Lib.SlBytesConst
set_option linter.unusedVariables false
set_option linter.unusedSimpArgs false
namespace Go.Proofs.YtiiedgbdooamaaaDoor
open Go.RowKit Go.Sg

theorem cells_marked (k : IntKind) (w : World) (e : TypeId) (xs : List Int) (C : Array Value) (z : Nat × Nat) (hC : C = (xs.map (Value.int k)).toArray) (n : Nat) (hn : n = w.heap.size) : Cells k (w.alloc (.cells C e z)) (some ⟨n, 0, none⟩) xs := by
  subst hn hC
  intro _
  refine ⟨_, 0, rfl, fun j hj => ?_⟩
  have h : (w.alloc (.cells (xs.map (Value.int k)).toArray e z)).heap[w.heap.size]? = some (.cells (xs.map (Value.int k)).toArray e z) := by
    show (w.heap.push _)[w.heap.size]? = _
    simp
  rw [Nat.zero_add, cell_of_row (w.alloc (.cells (xs.map (Value.int k)).toArray e z)) w.heap.size j _ e z h]
  simp [hj, nth_get _ _ hj]

set_option maxHeartbeats 4000000 in
set_option maxRecDepth 20000 in
theorem started_c (w : World) (ht : ShaTabs w) : Calls Tryd.prog 51 #[] w (TellPost true w) := by
  obtain ⟨J, hJ⟩ : ∃ J, J = jefe := ⟨_, rfl⟩
  obtain ⟨D, hD⟩ : ∃ D, D = want_ := ⟨_, rfl⟩
  obtain ⟨T, hT⟩ : ∃ T, T = hmac 1 J D := ⟨_, rfl⟩
  have jl : J.length = 4 := by rw [hJ]; rfl
  have dl : D.length = 28 := by rw [hD]; rfl
  have uJ : U8 J := by rw [hJ]; exact .of_mem (by omega) (by decide)
  have uD : U8 D := by rw [hD]; exact .of_mem (by omega) (by decide)
  have tl : T.length = 32 := by rw [hT, hmac_len (.inl rfl)]; rfl
  have t0 : nth T 0 = 91 := by rw [hT, hJ, hD]; exact hmac_jefe.1
  have t31 : nth T 31 = 67 := by rw [hT, hJ, hD]; exact hmac_jefe.2
  have uT : U8 T := by rw [hT]; exact hmac_u8 _ _ _
  have HT := Lib.hid hT
  have TT := Lib.hid tl
  have lay : ∀ W : World, Sl .u8 ((W.alloc (.cells #[.int .u8 74, .int .u8 101, .int .u8 102, .int .u8 101] 5 (4, 5))).alloc (.cells #[.int .u8 119, .int .u8 104, .int .u8 97, .int .u8 116, .int .u8 32, .int .u8 100, .int .u8 111, .int .u8 32, .int .u8 121, .int .u8 97, .int .u8 32, .int .u8 119, .int .u8 97, .int .u8 110, .int .u8 116, .int .u8 32, .int .u8 102, .int .u8 111, .int .u8 114, .int .u8 32, .int .u8 110, .int .u8 111, .int .u8 116, .int .u8 104, .int .u8 105, .int .u8 110, .int .u8 103, .int .u8 63] 5 (28, 29))) (some ⟨W.heap.size, 0, none⟩) 4 J ∧
      Sl .u8 ((W.alloc (.cells #[.int .u8 74, .int .u8 101, .int .u8 102, .int .u8 101] 5 (4, 5))).alloc (.cells #[.int .u8 119, .int .u8 104, .int .u8 97, .int .u8 116, .int .u8 32, .int .u8 100, .int .u8 111, .int .u8 32, .int .u8 121, .int .u8 97, .int .u8 32, .int .u8 119, .int .u8 97, .int .u8 110, .int .u8 116, .int .u8 32, .int .u8 102, .int .u8 111, .int .u8 114, .int .u8 32, .int .u8 110, .int .u8 111, .int .u8 116, .int .u8 104, .int .u8 105, .int .u8 110, .int .u8 103, .int .u8 63] 5 (28, 29))) (some ⟨W.heap.size + 1, 0, none⟩) 28 D ∧
      Below W.heap.size W ((W.alloc (.cells #[.int .u8 74, .int .u8 101, .int .u8 102, .int .u8 101] 5 (4, 5))).alloc (.cells #[.int .u8 119, .int .u8 104, .int .u8 97, .int .u8 116, .int .u8 32, .int .u8 100, .int .u8 111, .int .u8 32, .int .u8 121, .int .u8 97, .int .u8 32, .int .u8 119, .int .u8 97, .int .u8 110, .int .u8 116, .int .u8 32, .int .u8 102, .int .u8 111, .int .u8 114, .int .u8 32, .int .u8 110, .int .u8 111, .int .u8 116, .int .u8 104, .int .u8 105, .int .u8 110, .int .u8 103, .int .u8 63] 5 (28, 29))) := by
    intro W
    have h1 : Sl .u8 (W.alloc (.cells #[.int .u8 74, .int .u8 101, .int .u8 102, .int .u8 101] 5 (4, 5))) (some ⟨W.heap.size, 0, none⟩) 4 J := ⟨by omega, by omega, cells_marked .u8 W 5 J _ _ (by rw [hJ]; rfl) _ rfl⟩
    have h2 : Sl .u8 ((W.alloc (.cells #[.int .u8 74, .int .u8 101, .int .u8 102, .int .u8 101] 5 (4, 5))).alloc (.cells #[.int .u8 119, .int .u8 104, .int .u8 97, .int .u8 116, .int .u8 32, .int .u8 100, .int .u8 111, .int .u8 32, .int .u8 121, .int .u8 97, .int .u8 32, .int .u8 119, .int .u8 97, .int .u8 110, .int .u8 116, .int .u8 32, .int .u8 102, .int .u8 111, .int .u8 114, .int .u8 32, .int .u8 110, .int .u8 111, .int .u8 116, .int .u8 104, .int .u8 105, .int .u8 110, .int .u8 103, .int .u8 63] 5 (28, 29))) (some ⟨W.heap.size + 1, 0, none⟩) 28 D := ⟨by omega, by omega, cells_marked .u8 _ 5 D _ _ (by rw [hD]; rfl) _ (by simp)⟩
    exact ⟨h1.below ((Below.refl _ _).alloc (Nat.le_refl _) _), h2, ((Below.refl _ _).alloc (Nat.le_refl _) _).alloc (by simp) _⟩
  have cv1 := fun W => Lib.run_convert_bytes_const (P := Tryd.prog) W 29 5 #[.int .u8 74, .int .u8 101, .int .u8 102, .int .u8 101] 4 4 Tryd.underlying29 Tryd.underlying5
  have cv2 : ∀ W : World, Sem.run Tryd.prog (convert 29 29 (.slice (some ⟨W.heap.size + 1, 0, none⟩) 28 28)) ((W.alloc (.cells #[.int .u8 74, .int .u8 101, .int .u8 102, .int .u8 101] 5 (4, 5))).alloc (.cells #[.int .u8 119, .int .u8 104, .int .u8 97, .int .u8 116, .int .u8 32, .int .u8 100, .int .u8 111, .int .u8 32, .int .u8 121, .int .u8 97, .int .u8 32, .int .u8 119, .int .u8 97, .int .u8 110, .int .u8 116, .int .u8 32, .int .u8 102, .int .u8 111, .int .u8 114, .int .u8 32, .int .u8 110, .int .u8 111, .int .u8 116, .int .u8 104, .int .u8 105, .int .u8 110, .int .u8 103, .int .u8 63] 5)) = .ok (.slice (some ⟨W.heap.size + 1, 0, none⟩) 28 28) ((W.alloc (.cells #[.int .u8 74, .int .u8 101, .int .u8 102, .int .u8 101] 5 (4, 5))).alloc (.cells #[.int .u8 119, .int .u8 104, .int .u8 97, .int .u8 116, .int .u8 32, .int .u8 100, .int .u8 111, .int .u8 32, .int .u8 121, .int .u8 97, .int .u8 32, .int .u8 119, .int .u8 97, .int .u8 110, .int .u8 116, .int .u8 32, .int .u8 102, .int .u8 111, .int .u8 114, .int .u8 32, .int .u8 110, .int .u8 111, .int .u8 116, .int .u8 104, .int .u8 105, .int .u8 110, .int .u8 103, .int .u8 63] 5 (28, 29))) := fun W => by
    have := Lib.run_convert_bytes_const (P := Tryd.prog) (W.alloc (.cells #[.int .u8 74, .int .u8 101, .int .u8 102, .int .u8 101] 5 (4, 5))) 29 5 #[.int .u8 119, .int .u8 104, .int .u8 97, .int .u8 116, .int .u8 32, .int .u8 100, .int .u8 111, .int .u8 32, .int .u8 121, .int .u8 97, .int .u8 32, .int .u8 119, .int .u8 97, .int .u8 110, .int .u8 116, .int .u8 32, .int .u8 102, .int .u8 111, .int .u8 114, .int .u8 32, .int .u8 110, .int .u8 111, .int .u8 116, .int .u8 104, .int .u8 105, .int .u8 110, .int .u8 103, .int .u8 63] 28 28 Tryd.underlying29 Tryd.underlying5
    have e : (W.alloc (.cells #[.int .u8 74, .int .u8 101, .int .u8 102, .int .u8 101] 5 (4, 5))).heap.size = W.heap.size + 1 := by simp
    rw [e] at this
    exact this
  simp only [List.size_toArray, List.length_cons, List.length_nil, Nat.zero_add, Nat.reduceAdd] at cv1
  have hm := fun W (t : ShaTabs W) => Hmac_c 1 (some ⟨W.heap.size, 0, none⟩) (some ⟨W.heap.size + 1, 0, none⟩) 4 28 J D _ (lay W).1 (lay W).2.1 uJ uD (by omega) (by omega) (t.below (lay W).2.2)
  rw [jl, dl, ← hT] at hm
  have hc := fun W (t : ShaTabs W) b c (s : Sl .u8 W b c T) => Check_c 1 (some ⟨W.heap.size, 0, none⟩) (some ⟨W.heap.size + 1, 0, none⟩) b 4 28 c J D T _ (lay W).1 (lay W).2.1 (s.below (lay W).2.2) uJ uD uT (by omega) (by omega) (t.below (lay W).2.2)
  rw [jl, dl, tl] at hc
  have dT : decide (IsHash 1 ∧ hmac 1 J D = T) = true := decide_eq_true ⟨.inl rfl, hT.symm⟩
  have DT := Lib.hid dT
  clear hJ hD jl dl hT tl dT
  go_enter Tryd.func51, Tryd.ntmps51
  go_wp2_with fail
  refine (hm w ht).mono ?_; rintro e w1 ⟨v1, rfl, n1, hb1⟩
  replace hb1 := (lay w).2.2.trans (hb1.mono (lay w).2.2.size)
  obtain ⟨a1, c1, rfl, s1⟩ := n1.sl
  rw [TT.out]
  have ht1 := ht.below hb1
  obtain ⟨b, off, rfl, hcc⟩ := s1.cells (by rw [TT.out]; omega)
  have k0 := hcc 0 (by rw [TT.out]; omega)
  have k31 := hcc 31 (by rw [TT.out]; omega)
  rw [Nat.add_zero, t0] at k0
  rw [t31] at k31
  have eq1 := fun W (s : Sl .u8 W (some ⟨b, off, none⟩) c1 T) => Equal_c _ _ _ _ _ _ _ s s uT uT
  have eq2 := fun W (s : Sl .u8 W (some ⟨b, off, none⟩) c1 T) => Equal_c _ none _ 0 _ [] W s (.nil _ _ _ _ (by omega)) uT (.nil (by omega))
  rw [TT.out] at eq1 eq2
  have d2 : decide (T = []) = false := decide_eq_false fun e => by have := TT.out; rw [e] at this; simp at this
  have hc1 := hc w1 ht1 (some ⟨b, off, none⟩) c1 s1
  rw [DT.out] at hc1
  clear n1 hcc hm hc ht
  go_wp2_with fail
  refine hc1.mono ?_; rintro e w2 ⟨rfl, hb2⟩
  replace hb2 := (lay w1).2.2.trans (hb2.mono (lay w1).2.2.size)
  have s2 := s1.below hb2
  have hB2 := hb1.trans (hb2.mono hb1.size)
  clear s1 hb2 hb1 hc1 k0 k31
  go_wp2_with fail
  refine (eq1 w2 s2).mono ?_; rintro e w3 ⟨rfl, hb3⟩
  have s3 := s2.below hb3
  have hB3 := hB2.trans (hb3.mono hB2.size)
  clear s2 hB2 hb3
  go_wp2_with fail
  refine (eq2 w3 s3).mono ?_; rintro e w4 ⟨rfl, hb4⟩
  rw [d2]
  have hB4 := hB3.trans (hb4.mono hB3.size)
  go_wp2_with fail
  go_ret
  exact ⟨rfl, hB4⟩

set_option maxHeartbeats 4000000 in
set_option maxRecDepth 20000 in
theorem HmacIs_c (h : Int) (a a' : Option Addr) (cap cap' : Nat) (k d : List Int) (w : World) (hx : Sl .u8 w a cap k) (ux : U8 k) (hy : Sl .u8 w a' cap' d) (uy : U8 d) (hz : k.length + d.length ≤ 1048576) (ht : ShaTabs w) :
    Calls Tryd.prog 10 #[.int .i64 h, .slice a k.length cap, .slice a' d.length cap'] w (TruePost w) := by
  go_enter Tryd.func10, Tryd.ntmps10
  have hB := Below.refl w.heap.size w
  go_wp2_with fail
  refine (started_c _ ht).mono ?_; rintro e w1 ⟨rfl, hb⟩
  replace hx := hx.below hb
  replace hy := hy.below hb
  replace ht := ht.below hb
  replace hB := hB.trans (hb.mono hB.size)
  clear hb
  go_wp2_with fail
  refine (Hmac_c h a a' cap cap' k d _ hx hy ux uy (by omega) (by omega) ht).mono ?_; rintro e w2 ⟨vT, rfl, nT, hb⟩
  replace hx := hx.below hb
  replace hy := hy.below hb
  replace ht := ht.below hb
  replace hB := hB.trans (hb.mono hB.size)
  clear hb
  obtain ⟨aT, cT, rfl, sT⟩ := nT.sl
  clear nT
  obtain ⟨zT, hT⟩ : ∃ z, z = hmac h k d := ⟨_, rfl⟩
  rw [← hT] at sT ⊢
  have uT : U8 zT := by rw [hT]; exact hmac_u8 _ _ _
  have eT := Lib.hid hT
  clear hT
  go_wp2_with fail
  refine (block5_c h _).mono ?_; rintro e w' ⟨rfl, rfl⟩
  by_cases hh : IsHash h
  · have hsb := hh.size_le
    have g0 : ((shaBlock h : Int) == 0) = false := beq_false_of_ne (by omega)
    obtain ⟨B, hB1⟩ : ∃ B, B = shaBlock h := ⟨_, rfl⟩
    rw [← hB1] at g0 hsb ⊢
    have HB1 := Lib.hid hB1
    clear hB1
    go_wp2_with fail
    refine (fill5_c h a cap k _ hx ux (by omega) ht).mono ?_; rintro e w3 ⟨vK, rfl, nK, hb⟩
    replace hx := hx.below hb
    replace hy := hy.below hb
    replace ht := ht.below hb
    replace sT := sT.below hb
    replace hB := hB.trans (hb.mono hB.size)
    clear hb
    obtain ⟨aK, cK, rfl, sK⟩ := nK.sl
    clear nK
    obtain ⟨zK, hK⟩ : ∃ z, z = key0 h k := ⟨_, rfl⟩
    rw [← hK] at sK ⊢
    have uK : U8 zK := by rw [hK]; exact key0_u8 ux
    have lK : zK.length ≤ B := by rw [hK]; rw [key0_len k hh, HB1.out]; exact Nat.le_refl _
    have eK := Lib.hid hK
    clear hK
    go_wp2_with fail
    refine (xor5_c 54 _ _ _ _ _ _ _ sK hy (by omega)).mono ?_; rintro e w4 ⟨vX, rfl, nX, hb⟩
    replace hx := hx.below hb
    replace hy := hy.below hb
    replace ht := ht.below hb
    replace sT := sT.below hb
    replace sK := sK.below hb
    replace hB := hB.trans (hb.mono hB.size)
    clear hb
    obtain ⟨aX, cX, rfl, sX⟩ := nX.sl
    clear nX
    obtain ⟨zX, hX⟩ : ∃ z, z = zK.map (fun b => bx b 54) ++ d := ⟨_, rfl⟩
    rw [← hX] at sX ⊢
    have uX : U8 zX := by rw [hX]; exact (map_bx_u8 _ _).append (by omega) uy
    have lX : zX.length ≤ B + d.length := by rw [hX]; rw [List.length_append, List.length_map]; omega
    have eX := Lib.hid hX
    clear hX
    go_wp2_with fail
    refine (Sum1_c h _ _ _ _ sX uX (by omega) ht).mono ?_; rintro e w5 ⟨vI, rfl, nI, hb⟩
    replace hx := hx.below hb
    replace hy := hy.below hb
    replace ht := ht.below hb
    replace sT := sT.below hb
    replace sK := sK.below hb
    replace sX := sX.below hb
    replace hB := hB.trans (hb.mono hB.size)
    clear hb
    obtain ⟨aI, cI, rfl, sI⟩ := nI.sl
    clear nI
    obtain ⟨zI, hI⟩ : ∃ z, z = sha h zX := ⟨_, rfl⟩
    rw [← hI] at sI ⊢
    have uI : U8 zI := by rw [hI]; exact sha_u8 _ _
    have lI : zI.length ≤ B := by rw [hI]; rw [sha_len]; omega
    have eI := Lib.hid hI
    clear hI
    go_wp2_with fail
    refine (xor5_c 92 _ _ _ _ _ _ _ sK sI (by omega)).mono ?_; rintro e w6 ⟨vY, rfl, nY, hb⟩
    replace hx := hx.below hb
    replace hy := hy.below hb
    replace ht := ht.below hb
    replace sT := sT.below hb
    replace sK := sK.below hb
    replace sX := sX.below hb
    replace sI := sI.below hb
    replace hB := hB.trans (hb.mono hB.size)
    clear hb
    obtain ⟨aY, cY, rfl, sY⟩ := nY.sl
    clear nY
    obtain ⟨zY, hY⟩ : ∃ z, z = zK.map (fun b => bx b 92) ++ zI := ⟨_, rfl⟩
    rw [← hY] at sY ⊢
    have uY : U8 zY := by rw [hY]; exact (map_bx_u8 _ _).append (by omega) uI
    have lY : zY.length ≤ B + B := by rw [hY]; rw [List.length_append, List.length_map]; omega
    have eY := Lib.hid hY
    clear hY
    go_wp2_with fail
    refine (Sum1_c h _ _ _ _ sY uY (by omega) ht).mono ?_; rintro e w7 ⟨vO, rfl, nO, hb⟩
    replace hx := hx.below hb
    replace hy := hy.below hb
    replace ht := ht.below hb
    replace sT := sT.below hb
    replace sK := sK.below hb
    replace sX := sX.below hb
    replace sI := sI.below hb
    replace sY := sY.below hb
    replace hB := hB.trans (hb.mono hB.size)
    clear hb
    obtain ⟨aO, cO, rfl, sO⟩ := nO.sl
    clear nO
    obtain ⟨zO, hO⟩ : ∃ z, z = sha h zY := ⟨_, rfl⟩
    rw [← hO] at sO ⊢
    have uO : U8 zO := by rw [hO]; exact sha_u8 _ _
    have eO := Lib.hid hO
    clear hO
    go_wp2_with fail
    refine (same5_c _ _ _ _ _ _ _ sT sO uT uO).mono ?_; rintro e w8 ⟨rfl, hb⟩
    replace hx := hx.below hb
    replace hy := hy.below hb
    replace ht := ht.below hb
    replace sT := sT.below hb
    replace sK := sK.below hb
    replace sX := sX.below hb
    replace sI := sI.below hb
    replace sY := sY.below hb
    replace sO := sO.below hb
    replace hB := hB.trans (hb.mono hB.size)
    clear hb
    rw [show decide (zT = zO) = true from decide_eq_true (by rw [eT.out, eO.out, eY.out, eI.out, eX.out, eK.out, hmac_is hh]; unfold hfill; first | done | exact Eq.refl _)]
    go_wp2_with fail
    go_ret
    exact ⟨rfl, hB⟩
  · rw [shaBlock_no hh]
    have hT0 : zT = [] := by rw [eT.out, hmac_no hh]
    subst hT0
    go_wp2_with fail
    go_ret
    exact ⟨rfl, hB⟩
end Go.Proofs.YtiiedgbdooamaaaDoor
