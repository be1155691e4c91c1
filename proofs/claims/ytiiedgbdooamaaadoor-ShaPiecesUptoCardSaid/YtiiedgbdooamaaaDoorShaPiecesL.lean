/- signetlaw4.ShaPieces, its walk. -/
import Derived.Test.YtiiedgbdooamaaaDoorAwakeL
import Derived.Test.YtiiedgbdooamaaaDoorOpen
set_option linter.unusedVariables false
set_option linter.unusedSimpArgs false
namespace Go.Sg
open Go.RowKit
abbrev I64 (xs : List Int) : Prop := ∀ i, -9223372036854775808 ≤ nth xs i ∧ nth xs i ≤ 9223372036854775807
theorem take_add_drop (T : List Int) (j k : Nat) : T.take j ++ (T.drop j).take k = T.take (j + k) := by rw [List.take_add]
theorem grown_below {B : Nat} {a b c : World} (h : Below B a b) {row : Option Nat} (k : b.grownBy c row) (hB : B ≤ b.heap.size) (hr : ∀ g, row = some g → B ≤ g) : Below B a c := h.grown k hB hr
end Go.Sg
namespace Go.Proofs.YtiiedgbdooamaaaDoor
open Go.RowKit Go.Sg

theorem IsRow.i64 {w : World} {a : Option Addr} {len cap : Nat} {zs : List Int} (h : IsRow .i64 w a len cap zs) : I64 (zs.take len) := by
  intro i
  by_cases hi : i < (zs.take len).length
  · rcases h with ⟨_, rfl, _, rfl⟩ | ⟨x, _, hl, _, hz, _, hw⟩
    · simp at hi
    · have hm := nth_mem _ _ hi
      have := hw _ (List.mem_of_mem_take hm)
      simpa [Lit.wf, IntKind.min, IntKind.max, IntKind.signed, IntKind.bits] using this
  · rw [nth_out _ _ (by omega)]; omega

/-- What is left of the text: a slice that reads in the world ahead of the state. -/
structure Rest (wb : World) (v : Value) (T : List Int) (j : Nat) : Prop where
  ex : ∃ a c, v = .slice a (T.length - j) c ∧ Sl .u8 wb a c (T.drop j)
  le : j ≤ T.length
theorem flat_snoc (ps : List Part) (p : Part) : flat (ps ++ [p]) = flat ps ++ p.xs := by simp [flat]

set_option maxHeartbeats 16000000 in
set_option maxRecDepth 100000 in
theorem ShaPieces_c (h : Int) (a aC aO : Option Addr) (cap capC capO : Nat) (T cuts D : List Int) (w : World) (hx : Sl .u8 w a cap T) (ux : U8 T) (hc : Sl .i64 w aC capC cuts) (uc : I64 cuts) (hd : Sl .u8 w aO capO D) (ud : U8 D) (hz : T.length + cuts.length + D.length ≤ 1048576) (ht : ShaTabs w) :
    Calls Tryd.prog 7 #[.int .i64 h, .slice a T.length cap, .slice aC cuts.length capC, .slice aO D.length capO] w (TruePost w) := by
  go_enter Tryd.func7, Tryd.ntmps7
  go_wp2_with fail
  refine (awake_c w ht).mono ?_; rintro e w1 ⟨rfl, hb⟩
  replace hx := hx.below hb
  replace hc := hc.below hb
  replace hd := hd.below hb
  replace ht := ht.below hb
  have hB := hb
  clear hb
  go_wp2_with fail
  refine (Sum1_c h a cap T _ hx ux (by omega) ht).mono ?_; rintro e w2 ⟨v, rfl, nW, hb⟩
  obtain ⟨aW, cW, rfl, sW⟩ := nW.sl
  obtain ⟨Wn, hWn⟩ : ∃ z, z = sha h T := ⟨_, rfl⟩
  rw [← hWn] at sW ⊢
  have uW : U8 Wn := by rw [hWn]; exact sha_u8 _ _
  have lW : Hid (Wn.length = shaSize h) := Lib.hid (by rw [hWn, sha_len])
  have eW := Lib.hid hWn
  replace hx := hx.below hb
  replace hc := hc.below hb
  replace hd := hd.below hb
  replace ht := ht.below hb
  replace hB := hB.trans (hb.mono hB.size)
  clear hb nW hWn
  by_cases hh : IsHash h
  · go_wp2_with fail
    refine (New_c h hh w2 ht).mono ?_; rintro e w3 ⟨g, rfl, hg, hs, hb⟩
    have gl := hs.lt
    have sz := Size_c h w3
    obtain ⟨Z, hZ⟩ : ∃ Z, Z = Wn.length := ⟨_, rfl⟩
    have HZ := Lib.hid hZ
    rw [← lW.out, ← hZ] at sz
    rw [← hZ]
    have hne : ((Z : Int) != (Z : Int)) = false := by simp
    have hfar := hs.far
    have htop := ht.top
    obtain ⟨TL, hTL⟩ : ∃ n, n = T.length := ⟨_, rfl⟩
    have HTL := Lib.hid hTL
    obtain ⟨CL, hCL⟩ : ∃ n, n = cuts.length := ⟨_, rfl⟩
    have HCL := Lib.hid hCL
    obtain ⟨DL, hDL⟩ : ∃ n, n = D.length := ⟨_, rfl⟩
    have HDL := Lib.hid hDL
    rw [← hTL, ← hCL, ← hDL] at hz
    rw [← hTL, ← hCL, ← hDL]
    have hmC := Nat.le_trans hc.le hc.max
    rw [← hCL] at hmC
    have R0 : Rest w2 (.slice a TL cap) T 0 := ⟨⟨a, cap, by rw [Nat.sub_zero, HTL.out], hx⟩, by omega⟩
    clear hZ hTL hCL hDL
    go_wp2_with fail
    refine sz.mono ?_; rintro e w' ⟨rfl, rfl⟩
    clear sz
    go_wp2_with fail
    have hs0 : ShaSt w3 g h (T.take 0) := hs
    have ht3 : ShaTabs w3 := ht.below hb
    go_loopw [11, 12, 13] (fun r p t wr => ∃ (i j : Nat) (ps : List Part), i ≤ CL ∧ t = .int .i64 (i : Int) ∧ ps.length = i ∧ Rest w2 r T j ∧ flat ps = T.take j ∧ NewV w2.heap.size 29 wr p (ps.map Part.val) ∧ p.ownBlock ≠ some g ∧
        (∀ q ∈ ps, Sl .u8 w2 q.a q.cap q.xs ∧ U8 q.xs) ∧ ShaSt wr g h (T.take j) ∧ Below w2.heap.size w2 wr)
      (fun _ _ t _ => CL - (intOf t).toNat)
    case atStart => exact ⟨0, 0, [], by omega, rfl, rfl, R0, rfl, .nil _ _ _, by simp [Value.ownBlock], by simp, hs0, hb⟩
    case round =>
      clear hs hs0 R0 hb ht3
      obtain ⟨i, j, ps, hi, rfl, hpl, ⟨⟨aR, cR, rfl, sR⟩, hj⟩, hfl, hP, hPg, hps, hs, hb⟩ := hrel
      have hbs := hb.size
      have htr : ShaTabs wr := ht.below hb
      obtain ⟨m, hm⟩ : ∃ m, m = T.length - j := ⟨_, rfl⟩
      rw [← hm]
      have HM := Lib.hid hm
      have mb : m ≤ TL := by rw [HTL.out, hm]; omega
      have HFL := Lib.hid hfl
      have HPL := Lib.hid hpl
      have lD : Hid ((T.drop j).length = m) := Lib.hid (by rw [List.length_drop, hm])
      have mc : m ≤ cR := by have := sR.le; rw [lD.out] at this; exact this
      have mcm := sR.max
      obtain ⟨aP, cP, rfl⟩ := hP.sl
      have hgl := hs.lt
      clear hm hfl hpl
      obtain ⟨np, hnp⟩ : ∃ n, n = (ps.map Part.val).length := ⟨_, rfl⟩
      have HNP : Hid (np = i) := Lib.hid (by rw [hnp, List.length_map, HPL.out])
      have hnp2 := Lib.hid hnp
      have npb : np ≤ 1048576 := by rw [HNP.out]; omega
      rw [← hnp] at hP hPg ⊢
      clear hnp
      by_cases hlt : i < CL
      · obtain ⟨b, off, eaa, hcc⟩ := (hc.below hb).cells (by have := HCL.out; omega)
        have c0 := hcc i (by have := HCL.out; omega)
        have u0 := uc i
        obtain ⟨x, hx0⟩ : ∃ x, x = nth cuts i := ⟨_, rfl⟩
        rw [← hx0] at c0 u0
        have pr := pickI_rng x ((m : Int) + 1) (by omega)
        have pc := fun W => pick_c x ((m : Int) + 1) W u0 (by omega) (by omega)
        obtain ⟨k, hk⟩ : ∃ k : Nat, pickI x ((m : Int) + 1) = (k : Int) := ⟨(pickI x ((m : Int) + 1)).toNat, by omega⟩
        rw [hk] at pc pr
        have km : k ≤ m := by omega
        have hd1 : decide ((i : Int) < (CL : Int)) = true := decide_eq_true (by omega)
        subst eaa
        clear hcc hx0 pr hk u0
        have h1 := fun W => cut_h0 (P := Tryd.prog) W 29 5 Tryd.underlying29 size8 aR m cR k (by omega)
        have h2 := fun W => cut_l (P := Tryd.prog) W 29 5 Tryd.underlying29 size8 aR m cR k km (k : Int) rfl
        have sK := sR.take k
        have sN := sR.cut k (by rw [lD.out]; exact km)
        obtain ⟨a2, ha2⟩ : ∃ x, x = (if cR = k then aR else aR.map (·.add k)) := ⟨_, rfl⟩
        obtain ⟨m2, hm2⟩ : ∃ x, x = m - k := ⟨_, rfl⟩
        obtain ⟨c2, hc2⟩ : ∃ x, x = cR - k := ⟨_, rfl⟩
        rw [← ha2, ← hc2] at h2 sN
        rw [← hm2] at h2
        obtain ⟨X, hX⟩ : ∃ X, X = (T.drop j).take k := ⟨_, rfl⟩
        rw [← hX] at sK
        have lX : Hid (X.length = k) := Lib.hid (by rw [hX, List.length_take, lD.out]; omega)
        have uX : U8 X := by rw [hX]; exact (ux.drop (by omega) _).take (by omega) _
        have eX := Lib.hid hX
        have R2 : Rest w2 (.slice a2 m2 c2) T (j + k) := ⟨⟨a2, c2, by rw [hm2, HM.out, Nat.sub_sub], by rw [← List.drop_drop]; exact sN⟩, by have := HM.out; omega⟩
        have tk : Hid (T.take j ++ X = T.take (j + k)) := Lib.hid (by rw [hX]; exact take_add_drop T j k)
        have hapK : ∀ b off, aR = some ⟨b, off, none⟩ → 0 < X.length → b ≠ g := sK.apart hg
        have hapO : ∀ G, w2.heap.size ≤ G → ∀ b off, aO = some ⟨b, off, none⟩ → 0 < D.length → b ≠ G := fun G hG => hd.apart hG
        have HM2 := Lib.hid hm2
        clear ha2 hm2 hc2 hX sN
        go_wp2_with fail
        refine (pc _).mono ?_; rintro e w' ⟨rfl, rfl⟩
        clear pc c0
        go_wp2_with (at_builtin; refine wpList_append_newV _ rfl _ _ 28 rfl w2.heap.size 29 24 Tryd.underlying28 infoS _ (ps.map Part.val) rfl (hP.alloc _) _ 1 (.slice aR k cR) ⟨_, _, _, rfl⟩ rfl (cell_new1 _ _ _ _) (by rw [← hnp2.out]; omega) (by rw [← hnp2.out]; omega) (by simp; omega) ?_)
        intro vP w4 hP4 hg4 hown
        have hPlt := fun G hG => (hP.lt G hG).1
        have hb4 : Below w2.heap.size w2 w4 := (hb.alloc hbs _).grown hg4 (by simp; omega) hPlt
        have hs4 : ShaSt w4 g h (T.take j) := (hs.keep ((Below.refl _ _).alloc (Nat.le_refl _) (.cells #[.slice aR k cR] 29))).grown hg4 (fun e => hPg e.symm)
        have hPg4 : vP.ownBlock ≠ some g := by
          rcases hown with e | ⟨G, e, hG⟩
          · rw [e]; exact hPg
          · rw [e]; intro e2; simp at e2 hG; omega
        have eP : Hid (ps.map Part.val ++ [.slice aR k cR] = (ps ++ [Part.mk aR cR X]).map Part.val) := Lib.hid (by simp [Part.val, lX.out])
        rw [eP.out] at hP4
        have hps4 : ∀ q ∈ ps ++ [Part.mk aR cR X], Sl .u8 w2 q.a q.cap q.xs ∧ U8 q.xs := by
          intro q hq
          rw [List.mem_append, List.mem_singleton] at hq
          rcases hq with hq | rfl
          · exact hps q hq
          · exact ⟨sK, uX⟩
        have hfl4 : Hid (flat (ps ++ [Part.mk aR cR X]) = T.take (j + k)) := Lib.hid (by rw [flat_snoc, HFL.out]; exact tk.out)
        have hpl4 : Hid ((ps ++ [Part.mk aR cR X]).length = i + 1) := Lib.hid (by simp [HPL.out])
        obtain ⟨ps4, hps4e⟩ : ∃ q, q = ps ++ [Part.mk aR cR X] := ⟨_, rfl⟩
        rw [← hps4e] at hP4 hps4 hfl4 hpl4
        have wc := Write_c g h (T.take j) aR cR X w4 hs4 (sK.below hb4) uX hapK (ht.below hb4)
        rw [tk.out, lX.out] at wc
        clear hps4e hs hP hb hg4 hown hPlt hPg hps hbs
        go_wp2_with fail
        refine wc.mono ?_; rintro e w5 ⟨rfl, hs5, hg5⟩
        have hP5 := hP4.kept hg5 (.inr hPg4)
        have hb5 : Below w2.heap.size w2 w5 := below_then hb4 hg5 hg hb4.size
        have ht5 := ht.below hb5
        have tl : (T.take (j + k)).length < 2305843009213693952 := by rw [List.length_take, ← HTL.out]; omega
        clear wc hs4 hP4 hb4 hg5 h1 htr
        go_wp2_with fail
        refine (StSum_c g h (T.take (j + k)) w5 hs5 tl ht5).mono ?_; rintro e w6 ⟨v6, rfl, n6, hb6⟩
        obtain ⟨aA, cA, rfl, sA⟩ := n6.sl
        obtain ⟨A, hA⟩ : ∃ z, z = sha h (T.take (j + k)) := ⟨_, rfl⟩
        rw [← hA] at sA ⊢
        have uA : U8 A := by rw [hA]; exact sha_u8 _ _
        have eA := Lib.hid hA
        have hP6 := hP5.keep hb6
        have hs6 := hs5.keep hb6
        have hB6 := hb5.trans (hb6.mono hb5.size)
        have apAg : ∀ b off, aA = some ⟨b, off, none⟩ → 0 < A.length → b ≠ g := fun b off ha _ e => by
          have h1 := n6.far b off ha
          have h2 := hs5.lt
          omega
        clear n6 hA hP5 hs5 hb5 hb6 ht5
        by_cases hp : i % 2 = 0
        · have hp1 : ((i : Int) % 2 == 0) = true := by simp; omega
          have hs6z := hB6.size
          go_wp2_with fail
          refine (Copy_c g h _ w6 hs6).mono ?_; rintro e w7 ⟨g7, rfl, hg7, hs7, hb7⟩
          have hP7 := hP6.keep hb7
          have hsg7 := hs6.keep hb7
          have sA7 := sA.below hb7
          have hB7 := hB6.trans (hb7.mono hB6.size)
          have hgl6 := hs6.lt
          have hP7g : vP.ownBlock ≠ some g7 := fun e => by have := (hP6.lt g7 e).2; omega
          have apA7 := sA.apart hg7
          clear hP6 hs6 sA hB6 hb7
          have wc7 := Write_c g7 h _ aO capO D w7 hs7 (hd.below hB7) ud (hapO g7 (by omega)) (ht.below hB7)
          rw [← HDL.out] at wc7
          go_wp2_with fail
          refine wc7.mono ?_; rintro e w8 ⟨rfl, hs8, hg8⟩
          have hP8 := hP7.kept hg8 (.inr hP7g)
          have hsg8 := hsg7.grown hg8 (by simp; omega)
          have sA8 := sA7.grown' hg8 (fun b off ha hp e => apA7 b off ha hp (Option.some.inj e))
          have hB8 : Below w2.heap.size w2 w8 := below_then hB7 hg8 (by omega) hB7.size
          clear hP7 hsg7 sA7 hB7 hs7 wc7 hs8 hg8 apA7
          have wc8 := Write_c g h _ none 0 [] w8 hsg8 (.nil _ _ _ _ (by omega)) (.nil (by omega)) (by simp) (ht.below hB8)
          rw [List.append_nil, List.length_nil] at wc8
          have apA8 : ∀ b off, aA = some ⟨b, off, none⟩ → 0 < A.length → b ≠ g := apAg
          go_wp2_with fail
          refine wc8.mono ?_; rintro e w9 ⟨rfl, hs9, hg9⟩
          have hP9 := hP8.kept hg9 (.inr hPg4)
          have sA9 := sA8.grown' hg9 (fun b off ha hp e => apA8 b off ha hp (Option.some.inj e))
          have hB9 : Below w2.heap.size w2 w9 := below_then hB8 hg9 hg hB8.size
          clear hP8 sA8 hB8 hsg8 wc8 hg9
          go_wp2_with fail
          refine (StSum_c g h (T.take (j + k)) w9 hs9 tl (ht.below hB9)).mono ?_; rintro e wx ⟨vx, rfl, nx, hbx⟩
          obtain ⟨aB, cB, rfl, sB⟩ := nx.sl
          obtain ⟨Bx, hBx⟩ : ∃ z, z = sha h (T.take (j + k)) := ⟨_, rfl⟩
          rw [← hBx] at sB ⊢
          have uB : U8 Bx := by rw [hBx]; exact sha_u8 _ _
          have eB : Hid (A = Bx) := Lib.hid (by rw [hBx, eA.out])
          have hPx := hP9.keep hbx
          have hsx := hs9.keep hbx
          have sAx := sA9.below hbx
          have hBx2 := hB9.trans (hbx.mono hB9.size)
          clear nx hBx hP9 hs9 sA9 hB9 hbx
          have cm := same4_c _ _ _ _ _ _ _ sAx sB uA uB
          rw [show decide (A = Bx) = true from decide_eq_true eB.out] at cm
          go_wp2_with fail
          refine cm.mono ?_; rintro e wy ⟨rfl, hby⟩
          have hPy := hPx.keep hby
          have hsy := hsx.keep hby
          have hBy := hBx2.trans (hby.mono hBx2.size)
          clear cm sAx sB hPx hsx hBx2 hby
          go_wp2_with fail
          go_roundw
          case rel => exact ⟨i + 1, j + k, ps4, by omega, by go_num, hpl4.out, R2, hfl4.out, hPy, hPg4, hps4, hsy, hBy⟩
          case measure => simp [intOf]; omega
        · have hp1 : ((i : Int) % 2 == 0) = false := by simp; omega
          go_wp2_with fail
          refine (StSum_c g h (T.take (j + k)) w6 hs6 tl (ht.below hB6)).mono ?_; rintro e wx ⟨vx, rfl, nx, hbx⟩
          obtain ⟨aB, cB, rfl, sB⟩ := nx.sl
          obtain ⟨Bx, hBx⟩ : ∃ z, z = sha h (T.take (j + k)) := ⟨_, rfl⟩
          rw [← hBx] at sB ⊢
          have uB : U8 Bx := by rw [hBx]; exact sha_u8 _ _
          have eB : Hid (A = Bx) := Lib.hid (by rw [hBx, eA.out])
          have hPx := hP6.keep hbx
          have hsx := hs6.keep hbx
          have sAx := sA.below hbx
          have hBx2 := hB6.trans (hbx.mono hB6.size)
          clear nx hBx hP6 hs6 sA hB6 hbx
          have cm := same4_c _ _ _ _ _ _ _ sAx sB uA uB
          rw [show decide (A = Bx) = true from decide_eq_true eB.out] at cm
          go_wp2_with fail
          refine cm.mono ?_; rintro e wy ⟨rfl, hby⟩
          have hPy := hPx.keep hby
          have hsy := hsx.keep hby
          have hBy := hBx2.trans (hby.mono hBx2.size)
          clear cm sAx sB hPx hsx hBx2 hby
          go_wp2_with fail
          go_roundw
          case rel => exact ⟨i + 1, j + k, ps4, by omega, by go_num, hpl4.out, R2, hfl4.out, hPy, hPg4, hps4, hsy, hBy⟩
          case measure => simp [intOf]; omega
      · obtain rfl : CL = i := by omega
        have hd1 : decide ((CL : Int) < (CL : Int)) = false := by simp
        obtain ⟨X, hX⟩ : ∃ X, X = T.drop j := ⟨_, rfl⟩
        rw [← hX] at sR lD
        have uX : U8 X := by rw [hX]; exact ux.drop (by omega) _
        have tk : Hid (T.take j ++ X = T) := Lib.hid (by rw [hX]; exact List.take_append_drop _ _)
        have hapK : ∀ G, w2.heap.size ≤ G → ∀ b off, aR = some ⟨b, off, none⟩ → 0 < X.length → b ≠ G := fun G hG => sR.apart hG
        have hapO : ∀ G, w2.heap.size ≤ G → ∀ b off, aO = some ⟨b, off, none⟩ → 0 < D.length → b ≠ G := fun G hG => hd.apart hG
        clear hX
        go_wp2_with fail
        refine (Copy_c g h _ wr hs).mono ?_; rintro e w4 ⟨g4, rfl, hg4, hs4, hb4⟩
        have hP4 := hP.keep hb4
        have hsg4 := hs.keep hb4
        have hB4 := hb.trans (hb4.mono hb.size)
        have hPg4 : (Value.slice aP np cP).ownBlock ≠ some g4 := fun e => by have := (hP.lt g4 e).2; omega
        have g4b : w2.heap.size ≤ g4 := by omega
        clear hP hs hb hb4 htr
        have wc := Write_c g h (T.take j) aR cR X w4 hsg4 (sR.below hB4) uX (hapK g hg) (ht.below hB4)
        rw [tk.out, lD.out] at wc
        go_wp2_with fail
        refine wc.mono ?_; rintro e w5 ⟨rfl, hs5, hg5⟩
        have hP5 := hP4.kept hg5 (.inr hPg)
        have hc5 := hs4.grown hg5 (by simp; omega)
        have hB5 : Below w2.heap.size w2 w5 := below_then hB4 hg5 hg hB4.size
        have hbs5 := hB5.size
        clear wc hP4 hs4 hB4 hg5 hsg4
        go_wp2_with (at_builtin; refine wpList_append_newV _ rfl _ _ 28 rfl w2.heap.size 29 24 Tryd.underlying28 infoS _ (ps.map Part.val) rfl (hP5.alloc _) _ 1 (.slice aR m cR) ⟨_, _, _, rfl⟩ rfl (cell_new1 _ _ _ _) (by rw [← hnp2.out]; omega) (by rw [← hnp2.out]; omega) (by simp; omega) ?_)
        intro vP w6 hP6 hg6 hown
        have hPlt := fun G hG => (hP5.lt G hG).1
        have hb6 : Below w2.heap.size w2 w6 := (hB5.alloc hbs5 _).grown hg6 (by simp; omega) hPlt
        have hal := (Below.refl w5.heap.size w5).alloc (Nat.le_refl _) (.cells #[.slice aR m cR] 29)
        have hs6 : ShaSt w6 g h T := (hs5.keep hal).grown hg6 (fun e => hPg e.symm)
        have hc6 : ShaSt w6 g4 h (T.take j) := (hc5.keep hal).grown hg6 (fun e => hPg4 e.symm)
        have l5 := hs5.lt
        have l5c := hc5.lt
        have hPg6 : vP.ownBlock ≠ some g ∧ vP.ownBlock ≠ some g4 := by
          rcases hown with e | ⟨G, e, hG⟩
          · rw [e]; exact ⟨hPg, hPg4⟩
          · rw [e]; constructor <;> (intro e2; simp at e2 hG; omega)
        have eP : Hid (ps.map Part.val ++ [.slice aR m cR] = (ps ++ [Part.mk aR cR X]).map Part.val) := Lib.hid (by simp [Part.val, lD.out])
        rw [eP.out] at hP6
        have hps6 : ∀ q ∈ ps ++ [Part.mk aR cR X], Sl .u8 w2 q.a q.cap q.xs ∧ U8 q.xs := by
          intro q hq
          rw [List.mem_append, List.mem_singleton] at hq
          rcases hq with hq | rfl
          · exact hps q hq
          · exact ⟨sR, uX⟩
        have hfl6 : Hid (flat (ps ++ [Part.mk aR cR X]) = T) := Lib.hid (by rw [flat_snoc, HFL.out]; exact tk.out)
        have hpl6 : Hid ((ps ++ [Part.mk aR cR X]).length = CL + 1) := Lib.hid (by simp [HPL.out])
        obtain ⟨ps6, hps6e⟩ : ∃ q, q = ps ++ [Part.mk aR cR X] := ⟨_, rfl⟩
        rw [← hps6e] at hP6 hps6 hfl6 hpl6
        have wc6 := Write_c g4 h _ aO capO D w6 hc6 (hd.below hb6) ud (hapO g4 g4b) (ht.below hb6)
        rw [← HDL.out] at wc6
        clear hps6e hP5 hg6 hown hPlt hPg hPg4 hps hs5 hc5 hal hB5
        go_wp2_with fail
        refine wc6.mono ?_; rintro e w7 ⟨rfl, hc7, hg7⟩
        have hP7 := hP6.kept hg7 (.inr hPg6.2)
        have hs7 := hs6.grown hg7 (by simp; omega)
        have hB7 : Below w2.heap.size w2 w7 := below_then hb6 hg7 g4b hb6.size
        clear wc6 hP6 hs6 hb6 hg7 hc6
        go_wp2_with fail
        refine (StSum_c g h T w7 hs7 (by rw [← HTL.out]; omega) (ht.below hB7)).mono ?_; rintro e w8 ⟨v8, rfl, n8, hb8⟩
        obtain ⟨aA, cA, rfl, sA⟩ := n8.sl
        obtain ⟨A, hA⟩ : ∃ z, z = sha h T := ⟨_, rfl⟩
        rw [← hA] at sA ⊢
        have uA : U8 A := by rw [hA]; exact sha_u8 _ _
        have eA : Hid (A = Wn) := Lib.hid (by rw [hA, eW.out])
        have hP8 := hP7.keep hb8
        have hc8 := hc7.keep hb8
        have hB8 := hB7.trans (hb8.mono hB7.size)
        have apA : ∀ b off, aA = some ⟨b, off, none⟩ → 0 < A.length → b ≠ g4 := fun b off ha _ e => by
          have h1 := n8.far b off ha
          have h2 := hc7.lt
          omega
        clear n8 hA hP7 hs7 hB7 hb8 hc7
        have wc8 := Write_c g4 h _ aR cR X w8 hc8 (sR.below hB8) uX (hapK g4 g4b) (ht.below hB8)
        rw [lD.out] at wc8
        go_wp2_with fail
        refine wc8.mono ?_; rintro e w9 ⟨rfl, hc9, hg9⟩
        have hP9 := hP8.kept hg9 (.inr hPg6.2)
        have sA9 := sA.grown' hg9 (fun b off ha hp e => apA b off ha hp (Option.some.inj e))
        have hB9 : Below w2.heap.size w2 w9 := below_then hB8 hg9 g4b hB8.size
        clear wc8 hP8 sA hB8 hc8 hg9 hc9
        obtain ⟨aQ, cQ, rfl⟩ := hP9.sl
        have rw9 : Rows_ w9 aQ ps6 := hP9.rows (fun q hq => (hps6 q hq).1.below hB9) (fun q hq => (hps6 q hq).2)
        have ss := ShaSum_c h aQ cQ ps6 w9 rw9 (by rw [hpl6.out]; omega) (by rw [hfl6.out, ← HTL.out]; omega) (ht.below hB9)
        rw [hfl6.out] at ss
        have ml : Hid ((ps6.map Part.val).length = ps6.length) := Lib.hid (by simp)
        rw [ml.out]
        clear rw9
        go_wp2_with fail
        refine ss.mono ?_; rintro e w10 ⟨v10, rfl, n10, hb10⟩
        obtain ⟨aV, cV, rfl, sV⟩ := n10.sl
        obtain ⟨V, hV⟩ : ∃ z, z = sha h T := ⟨_, rfl⟩
        rw [← hV] at sV ⊢
        have uV : U8 V := by rw [hV]; exact sha_u8 _ _
        have eV : Hid (V = Wn) := Lib.hid (by rw [hV, eW.out])
        have sA10 := sA9.below hb10
        have hB10 := hB9.trans (hb10.mono hB9.size)
        have sW10 := sW.below hB10
        clear n10 hV sA9 hB9 hb10 ss
        have cm1 := same4_c _ _ _ _ _ _ _ sA10 sW10 uA uW
        rw [show decide (A = Wn) = true from decide_eq_true eA.out, ← HZ.out] at cm1
        go_wp2_with fail
        refine cm1.mono ?_; rintro e w11 ⟨rfl, hb11⟩
        have sV11 := sV.below hb11
        have sW11 := sW10.below hb11
        have hB11 := hB10.trans (hb11.mono hB10.size)
        clear cm1 hb11 sV sW10 hB10
        have cm2 := same4_c _ _ _ _ _ _ _ sV11 sW11 uV uW
        rw [show decide (V = Wn) = true from decide_eq_true eV.out, ← HZ.out] at cm2
        go_wp2_with fail
        refine cm2.mono ?_; rintro e w12 ⟨rfl, hb12⟩
        have hB12 := hB11.trans (hb12.mono hB11.size)
        have hfin := hB.trans (hB12.mono hB.size)
        go_wp2_with fail
        go_ret
        exact ⟨rfl, hfin⟩
  · have hW0 : Wn = [] := by rw [eW.out, sha_no hh]
    subst hW0
    go_wp2_with fail
    refine (New_no h hh w2).mono ?_; rintro e w3 ⟨rfl, hb⟩
    replace hB := hB.trans (hb.mono hB.size)
    have sz := Size_c h w3
    have bl := Block_c h w3
    rw [shaSize_no hh] at sz
    rw [shaBlock_no hh] at bl
    go_wp2_with fail
    refine sz.mono ?_; rintro e w' ⟨rfl, rfl⟩
    go_wp2_with fail
    refine bl.mono ?_; rintro e w' ⟨rfl, rfl⟩
    go_wp2_with fail
    go_ret
    exact ⟨rfl, hB⟩
end Go.Proofs.YtiiedgbdooamaaaDoor
