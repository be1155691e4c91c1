import Derived.Test.YtbmdifeanocahaaDoorZ31
/- signetlaw9.RsaComplete by its contract. (Printed by gen_rsacomplete.py.) -/
set_option linter.unusedVariables false
set_option linter.unusedSimpArgs false
namespace Go.Proofs.YtbmdifeanocahaaDoor
open Go.RowKit Go.Sg

theorem bval_bl8 {s : List Int} (u : U8 s) : bl (bval s) ≤ 8 * s.length := (bl_le_iff _ _).2 (by rw [Nat.pow_mul]; exact bval_lt u)
theorem cell3 (W : World) : Sl .u8 (W.alloc (.cells #[.int .u8 3] 5)) (some ⟨W.heap.size, 0, none⟩) 1 [3] := (cells_new .u8 W 5 [3] #[.int .u8 3] rfl _ rfl).sl_full (by simp)
theorem u3 : U8 [3] := .one (by omega) (by omega)
theorem bval3 : bval [3] = 3 := by decide
theorem blen_lim {n k : Nat} (h : Lim k n) : blen n ≤ 4 * k := by
  have h1 := (bl_le_iff n (32 * k)).2 (by rw [← Rpow_two]; exact h.lt)
  unfold blen
  omega
theorem cube_law {x M N : Nat} (h : M ≤ x * x * x) (hN : N = x * x * x - M) (hlt : M < N) : x ^ 3 % N = M := by
  have e : x ^ 3 = x * x * x := by rw [Nat.pow_succ, Nat.pow_succ, Nat.pow_one]
  have e2 : x * x * x = M + N := by omega
  rw [e, e2, Nat.add_mod_right, Nat.mod_eq_of_lt hlt]

set_option maxHeartbeats 16000000 in
set_option maxRecDepth 20000 in
theorem RsaComplete_c (h : Int) (am : Option Addr) (pm : Nat) (m : List Int) (ax : Option Addr) (px : Nat) (S : List Int) (size K : Int) (w : World) (sm : Sl .u8 w am pm m) (um : U8 m) (sx : Sl .u32 w ax px S) (uS : U32 S) (hz : m.length + S.length ≤ 1048576) (ht : ShaTabs w) (hi : Infos w) :
    Calls Tryd.prog 7 #[.int .i64 h, .slice am m.length pm, .slice ax S.length px, .int .i64 size, .int .i64 K] w (TruePost w) := by
  obtain ⟨zm, hzm⟩ : ∃ z, z = m.length := ⟨_, rfl⟩
  have cX := NumAt.of sx uS (by omega)
  obtain ⟨vX, hvX⟩ : ∃ v, v = Value.slice ax S.length px := ⟨_, rfl⟩
  obtain ⟨x, hx⟩ : ∃ x, x = val S := ⟨_, rfl⟩
  rw [← hvX, ← hx] at cX
  rw [← hzm] at hz ⊢
  rw [← hvX]
  have zmb : zm ≤ 1048576 := by omega
  have al_ := alive_c w ht hi
  have kn := fun W => known9_c h W
  have ec1 := fun (n : Nat) W (hB : Below w.heap.size w W) => pREncode_c h (n : Int) am pm m W (sm.below hB) um (by omega) (ht.below hB) (hi.below hB)
  unfold REncPost at ec1
  rw [← hzm] at ec1
  have HM := Lib.hid hzm
  have sm0 := sm
  have ht0 := ht
  have hi0 := hi
  clear hzm hvX hx hz sx uS sm ht hi
  go_enter Tryd.func7, Tryd.ntmps7
  have hB := Below.refl w.heap.size w
  go_wp2_with fail
  refine (al_).mono ?_; rintro e w1 ⟨rfl, hb⟩
  replace hB := hB.trans (hb.mono hB.size)
  clear hb
  clear al_
  replace cX := cX.below hB
  by_cases hh : IsHash h
  · have k1 : decide (IsHash h) = true := decide_eq_true hh
    have HH := Lib.hid hh
    clear hh
    rw [k1] at kn
    clear k1
    by_cases h1 : size < 256
    · have d1 : decide (size < 256) = true := decide_eq_true h1
      clear h1
      go_wp2_with fail
      refine (kn _).mono ?_; rintro e_ w' ⟨rfl, rfl⟩
      clear kn
      go_wp2_with fail
      go_ret
      exact ⟨rfl, hB⟩
    · have d1 : decide (size < 256) = false := decide_eq_false h1
      by_cases h2 : 512 < size
      · have d2 : decide (512 < size) = true := decide_eq_true h2
        clear h1 h2
        go_wp2_with fail
        refine (kn _).mono ?_; rintro e_ w' ⟨rfl, rfl⟩
        clear kn
        go_wp2_with fail
        go_ret
        exact ⟨rfl, hB⟩
      · have d2 : decide (512 < size) = false := decide_eq_false h2
        obtain ⟨n, rfl⟩ : ∃ n : Nat, size = (n : Int) := ⟨size.toNat, by omega⟩
        have n1 : 256 ≤ n := by omega
        have n2 : n ≤ 512 := by omega
        have d1n : decide (n < 256) = false := decide_eq_false (by omega)
        have d2n : decide (512 < n) = false := decide_eq_false (by omega)
        clear h1 h2
        go_wp2_with fail
        refine (kn _).mono ?_; rintro e_ w' ⟨rfl, rfl⟩
        clear kn
        obtain ⟨bx, hbx⟩ : ∃ b, b = bl x := ⟨_, rfl⟩
        have bt := bits_v cX
        rw [← hbx] at bt
        have HBX := Lib.hid hbx
        clear hbx
        by_cases h3 : 1400 < bx
        · have d3 : decide ((1400 : Int) < (bx : Int)) = true := decide_eq_true (by omega)
          clear h3
          go_wp2_with fail
          refine bt.mono ?_; rintro e_ w' ⟨rfl, rfl⟩
          go_wp2_with fail
          go_ret
          exact ⟨rfl, hB⟩
        · have d3 : decide ((1400 : Int) < (bx : Int)) = false := decide_eq_false (by omega)
          have d3n : decide (1400 < bx) = false := decide_eq_false (by omega)
          go_wp2_with fail
          refine bt.mono ?_; rintro e_ w' ⟨rfl, rfl⟩
          clear bt
          have lx : Hid (Lim 44 x) := Lib.hid (lim_of_bl (by rw [← HBX.out]; omega))
          clear h3
          have ss := shaSize_le h
          obtain ⟨r1, r2⟩ := rres_eq HH.out (m := m) (n := n) (by omega) n2
          obtain ⟨E, hE⟩ : ∃ E, E = rOf h m n := ⟨_, rfl⟩
          have ec := ec1 n
          rw [r1, r2, ← hE] at ec
          have lE : Hid (E.length = n) := Lib.hid (by rw [hE]; exact rOf_len (by omega))
          have uE : U8 E := by rw [hE, ← r1]; exact rres_u8 _ _ _
          obtain ⟨M, hM⟩ : ∃ M, M = bval E := ⟨_, rfl⟩
          have fE := fun W a c (k : Sl .u8 W a c E) => frombytes_can k uE (by rw [lE.out]; omega)
          rw [lE.out, ← hM] at fE
          have HE := Lib.hid hE
          have HMM := Lib.hid hM
          clear hE hM r1 r2 ec1 ss
          go_wp2_with fail
          refine (ec _ hB).mono ?_; rintro e w2 ⟨v1, rfl, nE, hb⟩
          replace cX := cX.below hb
          replace hB := hB.trans (hb.mono hB.size)
          clear hb
          obtain ⟨aE, cE, rfl, sE⟩ := nE.sl
          rw [lE.out]
          clear nE ec
          go_wp2_with fail
          refine (fE _ _ _ sE).mono ?_; rintro e w3 ⟨vM, rfl, cM, hb⟩
          replace cX := cX.below hb
          replace hB := hB.trans (hb.mono hB.size)
          clear hb
          clear fE sE
          go_wp2_with fail
          refine (mul_can cX cX lx.out lx.out (by omega)).mono ?_; rintro e w4 ⟨vQ, rfl, cQ, hb⟩
          replace cX := cX.below hb
          replace cM := cM.below hb
          replace hB := hB.trans (hb.mono hB.size)
          clear hb
          go_wp2_with fail
          refine (mul_can cQ.num cX (lx.out.mul lx.out) lx.out (by omega)).mono ?_; rintro e w5 ⟨vU, rfl, cU, hb⟩
          replace cX := cX.below hb
          replace cM := cM.below hb
          replace cQ := cQ.below hb
          replace hB := hB.trans (hb.mono hB.size)
          clear hb
          clear cQ
          have lu : Hid (Lim 132 (x * x * x)) := Lib.hid ((lx.out.mul lx.out).mul lx.out)
          obtain ⟨U, hU⟩ : ∃ U, U = x * x * x := ⟨_, rfl⟩
          rw [← hU] at cU lu
          have HU := Lib.hid hU
          clear hU
          have sb := sub_v cU.num cM.num
          by_cases hMU : M ≤ U
          · go_wp2_with fail
            refine sb.mono ?_; rintro e_ w8 ⟨p1, _, hb⟩
            obtain ⟨vN, rfl, nN⟩ := p1 hMU
            have cN := nN.can (lu.out.le (Nat.sub_le _ _)) (by omega)
            obtain ⟨N, hN⟩ : ∃ N, N = U - M := ⟨_, rfl⟩
            rw [← hN] at cN
            clear p1 nN sb
            replace cX := cX.below hb
            replace cM := cM.below hb
            replace cU := cU.below hb
            replace hB := hB.trans (hb.mono hB.size)
            clear hb
            clear cU
            have HMU := Lib.hid hMU
            have HN := Lib.hid hN
            clear hMU hN
            have cc := cmp_v cN.num cM.num
            by_cases hNM : M < N
            · rw [cmpI_gt hNM] at cc
              have HNM := Lib.hid hNM
              clear hNM
              go_wp2_with fail
              refine (cc).mono ?_; rintro e w9 ⟨rfl, hd⟩
              have hb := hd.b
              clear hd cc
              replace cX := cX.below hb
              replace cM := cM.below hb
              replace cN := cN.below hb
              replace hB := hB.trans (hb.mono hB.size)
              clear hb
              have cc := cmp_v cN.num cX
              by_cases hNX : x < N
              · rw [cmpI_gt hNX] at cc
                have HNX := Lib.hid hNX
                clear hNX
                go_wp2_with fail
                refine (cc).mono ?_; rintro e w10 ⟨rfl, hd⟩
                have hb := hd.b
                clear hd cc
                replace cX := cX.below hb
                replace cM := cM.below hb
                replace cN := cN.below hb
                replace hB := hB.trans (hb.mono hB.size)
                clear hb
                have by_ : Calls Tryd.prog 28 #[vN] w10 (NBytesPost (beN N (blen N)) w10) := by
                  obtain ⟨a', c', zs', rfl, s', u', hv', hl'⟩ := cN.num
                  rw [← hv']
                  exact Bytes_c _ _ _ _ s' u' (by omega)
                obtain ⟨B, hBy⟩ : ∃ B, B = beN N (blen N) := ⟨_, rfl⟩
                have uB : U8 B := by rw [hBy]; exact beN_u8 _ _
                have vB : Hid (bval B = N) := Lib.hid (by rw [hBy]; exact bval_bytes N)
                obtain ⟨zB, hzB⟩ : ∃ z, z = blen N := ⟨_, rfl⟩
                have lB : Hid (B.length = zB) := Lib.hid (by rw [hBy, hzB, beN_len])
                rw [← hBy] at by_
                have HZB := Lib.hid hzB
                clear hBy hzB
                go_wp2_with fail
                refine (by_).mono ?_; rintro e w11 ⟨vB_, rfl, nB, hb⟩
                replace cX := cX.below hb
                replace cM := cM.below hb
                replace cN := cN.below hb
                replace hB := hB.trans (hb.mono hB.size)
                clear hb
                obtain ⟨aB, cB, rfl, sB⟩ := nB.sl
                rw [lB.out]
                clear nB by_
                have fx := fixed_v cX n (by omega)
                unfold FixedPost fixL at fx
                obtain ⟨fb, hfb⟩ : ∃ b, b = fitB x (n : Int) := ⟨_, rfl⟩
                rw [← hfb] at fx
                have HFB := Lib.hid hfb
                clear hfb
                obtain ⟨FX, hFX⟩ : ∃ F, F = (if fb = true then beN x (n : Int).toNat else []) := ⟨_, rfl⟩
                rw [← hFX] at fx
                have HFX := Lib.hid hFX
                clear hFX
                have hBf := hB
                have cMf := cM
                have cNf := cN
                have sBf := sB
                go_wp2_with fail
                refine fx.mono ?_; rintro e_ w12 ⟨vF, rfl, nF, hF⟩
                clear cM cN cX sB fx
                replace hB := hB.trans (hF.mono hB.size)
                have al1 := fun W (k : Below w11.heap.size w11 W) => (k.mono (Nat.le_refl _))
                have hbs := hBf.size
                have vk : ∀ W, Below w11.heap.size w11 W → Calls Tryd.prog 21 #[.slice aB zB cB, .slice (some ⟨W.heap.size, 0, none⟩) 1 1] (W.alloc (.cells #[.int .u8 3] 5)) (KeyPost B [3] W) := by
                  intro W k
                  have al := (Below.refl W.heap.size W).alloc (Nat.le_refl _) (.cells #[.int .u8 3] 5)
                  have := Key_c _ _ _ _ B [3] _ ((sBf.below k).below al) (cell3 W) uB u3 (by rw [lB.out, HZB.out]; have := blen_lim (lu.out.le (show N ≤ U by rw [HN.out]; exact Nat.sub_le _ _)); omega) (by simp)
                  rw [lB.out] at this
                  exact this.mono fun e w' p => ⟨p.1, al.trans (p.2.mono al.size)⟩
                by_cases hsz : zB = n
                · subst hsz
                  have gne : ((zB : Int) != (zB : Int)) = false := by simp
                  have vv : ∀ (C : Int) (G : List Int) (uG : U8 G) (lG : G.length = zB) (hC : C = vcode h B [3] m G) W aG cG, Below w11.heap.size w11 W → Sl .u8 W aG cG G → Calls Tryd.prog 17 #[.int .i64 h, .slice aB zB cB, .slice (some ⟨W.heap.size, 0, none⟩) 1 1, .slice am zm pm, .slice aG zB cG] (W.alloc (.cells #[.int .u8 3] 5)) (VPost C W) := by
                    intro C G uG lG hC W aG cG k sG
                    have al := (Below.refl W.heap.size W).alloc (Nat.le_refl _) (.cells #[.int .u8 3] 5)
                    have kw := hBf.trans (k.mono hBf.size)
                    have := pVerify9_c h _ _ _ _ _ _ _ _ B [3] m G _ ((sBf.below k).below al) (cell3 W) ((sm0.below kw).below al) (sG.below al) uB u3 um uG (by rw [lB.out]; omega) (by simp) (by have := HM.out; omega) (by rw [lG]; omega) ((ht0.below kw).below al) ((hi0.below kw).below al)
                    rw [lB.out, lG, ← HM.out, ← hC] at this
                    exact this.mono fun e w' p => ⟨p.1, al.trans (p.2.mono al.size)⟩
                  have ls := HFX.out
                  clear ls
                  by_cases hk : keyOk B [3]
                  · have HK := Lib.hid hk
                    have vk1 := vk
                    unfold KeyPost at vk1
                    rw [keyCode_ok hk] at vk1
                    clear hk vk
                    have ft : fitB x (zB : Int) = true := by
                      refine decide_eq_true ⟨by omega, by omega, ?_⟩
                      rw [HZB.out]
                      have h1 := (bl_le_iff x (bl N)).2 (Nat.lt_trans HNX.out (lt_bl N))
                      unfold blen
                      omega
                    obtain rfl : fb = true := by rw [HFB.out]; exact ft
                    have eF : FX = beN x zB := by rw [HFX.out, if_pos rfl, Int.toNat_natCast]
                    have uF : U8 FX := by rw [eF]; exact beN_u8 _ _
                    have lF : Hid (FX.length = zB) := Lib.hid (by rw [eF, beN_len])
                    have vF_ : bval FX = x := by
                      rw [eF]
                      refine bval_beN _ _ ?_
                      rw [HZB.out]
                      exact Nat.lt_trans HNX.out (lt_blen N)
                    have hv0 : vHolds h B [3] m FX := by
                      refine ⟨by rw [lF.out, lB.out], by rw [vF_, vB.out]; exact HNX.out, ?_⟩
                      rw [vF_, bval3, vB.out, lB.out, cube_law (by rw [← HU.out]; exact HMU.out) (by rw [← HU.out]; exact HN.out) HNM.out, HMM.out, HE.out]
                    have code0 : (0 : Int) = vcode h B [3] m FX := by
                      unfold vcode
                      rw [if_pos HH.out, if_pos HK.out, if_pos hv0]
                    have vv1 := fun W aG cG => vv 0 FX uF lF.out code0 W aG cG
                    clear eF vF_ code0 ft hv0
                    go_wp2_with fail
                    refine (vk1 _ hF).mono ?_; rintro e_ w13 ⟨rfl, hb⟩
                    replace nF := nF.keep hb
                    replace hF := hF.trans (hb.mono hF.size)
                    replace hB := hB.trans (hb.mono hB.size)
                    clear hb
                    clear vk1
                    obtain ⟨k, cF, hve, hgB, pr⟩ := nF.pre (by rw [lF.out]; omega)
                    rw [lF.out] at hve
                    subst hve
                    clear nF
                    go_wp2_with fail
                    refine (vv1 _ _ _ hF pr.sl).mono ?_; rintro e_ w14 ⟨rfl, hb⟩
                    replace pr := pr.keep hb
                    replace hF := hF.trans (hb.mono hF.size)
                    replace hB := hB.trans (hb.mono hB.size)
                    clear hb
                    clear vv1
                    by_cases h5 : K < 0
                    · have d5 : decide (K < 0) = true := decide_eq_true h5
                      clear h5
                      go_wp2_with fail
                      go_ret
                      exact ⟨rfl, hB⟩
                    · have d5 : decide (K < 0) = false := decide_eq_false h5
                      obtain ⟨z8, hz8⟩ : ∃ z, z = 8 * zB := ⟨_, rfl⟩
                      have gz8 : 8 * (zB : Int) = (z8 : Int) := by omega
                      have HZ8 := Lib.hid hz8
                      clear hz8
                      obtain ⟨q, rfl⟩ : ∃ q : Nat, K = (q : Int) := ⟨K.toNat, by omega⟩
                      clear h5
                      by_cases h6 : z8 ≤ q
                      · have d6 : decide ((z8 : Int) ≤ (q : Int)) = true := decide_eq_true (by omega)
                        have d6n : decide (z8 ≤ q) = true := decide_eq_true h6
                        clear h6
                        go_wp2_with fail
                        go_ret
                        exact ⟨rfl, hB⟩
                      · have d6 : decide ((z8 : Int) ≤ (q : Int)) = false := decide_eq_false (by omega)
                        have d6n : decide (z8 ≤ q) = false := decide_eq_false h6
                        obtain ⟨j, hj⟩ : ∃ j, j = q / 8 := ⟨_, rfl⟩
                        obtain ⟨t, htt⟩ : ∃ t, t = q % 8 := ⟨_, rfl⟩
                        have jE : j < zB := by have := HZ8.out; omega
                        have t8 : t < 8 := by omega
                        have dj : (q : Int).tdiv 8 = (j : Int) := by rw [Int.tdiv_eq_ediv_of_nonneg (by omega)]; omega
                        have dj2 : (q : Int) / 8 = (j : Int) := by omega
                        have dt : (q : Int).tmod 8 = (t : Int) := by rw [Int.tmod_eq_emod_of_nonneg (by omega)]; omega
                        have dt2 : (q : Int) % 8 = (t : Int) := by omega
                        have wj : IntKind.i64.wrap (j : Int) = (j : Int) := by rw [IntKind.wrap_i64]; omega
                        have w64 : IntKind.u64.wrap (t : Int) = (t : Int) := by rw [IntKind.wrap_u64]; omega
                        have c1 := pr.cell j (by rw [lF.out]; exact jE)
                        have f1 := pr.free j
                        obtain ⟨y, hy1⟩ : ∃ y, y = nth FX j := ⟨_, rfl⟩
                        rw [← hy1] at c1
                        have jE2 : (j : Int) < (zB : Int) := by omega
                        obtain ⟨v, hv⟩ : ∃ v, v = bits .xor .u8 y ((2 : Int) ^ t % 256) := ⟨_, rfl⟩
                        have hve : bits .xor .u8 y ((2 : Int) ^ t % 256) = v := hv.symm
                        have v0 : 0 ≤ v ∧ v ≤ 255 := by rw [hv]; exact bits_u8_rng .xor _ _
                        have pr2 := pr.set j v
                        have hF2 := hF.setCell (p := ⟨k, j, none⟩) hgB (.int .u8 v)
                        have hB2 := hB.setCell (p := ⟨k, j, none⟩) (Nat.le_trans hbs hgB) (.int .u8 v)
                        obtain ⟨G, hG⟩ : ∃ X, X = FX.set j v := ⟨_, rfl⟩
                        rw [← hG] at pr2
                        have lG : Hid (G.length = zB) := Lib.hid (by rw [hG, List.length_set, lF.out])
                        have uG : U8 G := by rw [hG]; exact InR.set uF j v0.1 v0.2
                        clear h6 hj htt hy1 hv hG pr hF hB
                        go_wp2_with fail
                        go_still_tail 13, (by kernel_rfl)
                        change wpList _ _ _ _ _ w14.drew
                        go_wp2_with fail
                        obtain ⟨ws, hws⟩ : ∃ x, x = (w14.setCell ⟨k, j, none⟩ (.int .u8 v)).drew := ⟨_, rfl⟩
                        have hF := hF2.drew
                        have hB := hB2.drew
                        have sG := pr2.sl.drewN 1
                        change Sl .u8 (w14.setCell ⟨k, j, none⟩ (.int .u8 v)).drew _ _ _ at sG
                        rw [← hws] at hF hB sG ⊢
                        clear pr2 hF2 hB2 c1 f1

                        clear hws
                        obtain ⟨yy, hyy⟩ : ∃ x, x = bval G := ⟨_, rfl⟩
                        have fG := frombytes_can sG uG (by rw [lG.out]; omega)
                        rw [lG.out, ← hyy] at fG
                        have HYY := Lib.hid hyy
                        clear hyy
                        obtain ⟨V, hV⟩ : ∃ C, C = vcode h B [3] m G := ⟨_, rfl⟩
                        have vv2 := fun W aG cG => vv V G uG lG.out hV W aG cG
                        obtain ⟨pp, hpp⟩ : ∃ x, x = yy ^ 3 % N := ⟨_, rfl⟩
                        have iff1 : (yy < N ∧ pp = M) ↔ V = 0 := by
                          rw [hV, hpp, HYY.out]
                          unfold vcode
                          rw [if_pos HH.out, if_pos HK.out]
                          have e : vHolds h B [3] m G ↔ (bval G < N ∧ bval G ^ 3 % N = M) := by
                            unfold vHolds
                            rw [bval3, vB.out, lB.out, lG.out, HMM.out, HE.out]
                            exact ⟨fun k => k.2, fun k => ⟨rfl, k⟩⟩
                          by_cases hv : vHolds h B [3] m G
                          · rw [if_pos hv]; exact ⟨fun _ => rfl, fun _ => e.1 hv⟩
                          · rw [if_neg hv]; exact ⟨fun k => absurd (e.2 k) hv, fun k => by simp at k⟩
                        have v91 : V = 0 ∨ V = 91 := by
                          rw [hV]
                          unfold vcode
                          rw [if_pos HH.out, if_pos HK.out]
                          split <;> simp
                        have ok : Hid (Ok3 yy 3 N) := Lib.hid (by
                          have n2 : 2 ≤ N := by have := key_two HK.out; rwa [vB.out] at this
                          have hs := bval_bl8 uG
                          rw [lG.out, ← HYY.out] at hs
                          have hn := HZB.out
                          unfold blen at hn
                          exact ⟨decide_eq_false (by omega), by decide, decide_eq_false (by omega), n2⟩)
                        have ex : ∀ W v, Below w11.heap.size w11 W → CanAt W v yy → Calls Tryd.prog 23 #[v, .slice (some ⟨W.heap.size, 0, none⟩) 1 1, vN] (W.alloc (.cells #[.int .u32 3] 51)) (OkPost pp W) := by
                          intro W v k cv
                          have al := (Below.refl W.heap.size W).alloc (Nat.le_refl _) (.cells #[.int .u32 3] 51)
                          have := mExp_ok (cv.below al).num (can_lit W W.heap.size 3 3 rfl rfl (by omega) (by omega)).num ((cNf.below k).below al).num ok.out
                          rw [← hpp] at this
                          exact this.mono fun e w' p => by
                            obtain ⟨v, e1, c, b⟩ := p
                            exact ⟨v, e1, c, al.trans (b.mono al.size)⟩
                        have IFF := Lib.hid iff1
                        have V91 := Lib.hid v91
                        clear hV hpp iff1 v91 vv
                        go_wp2_with fail
                        refine (fG).mono ?_; rintro e_ w41 ⟨vY, rfl, cY, hb⟩
                        replace sG := sG.below hb
                        replace hB := hB.trans (hb.mono hB.size)
                        replace hF := hF.trans (hb.mono hF.size)
                        clear hb
                        clear fG
                        go_wp2_with fail
                        refine (ex _ _ hF cY).mono ?_; rintro e_ w42 ⟨vP, rfl, cP, hb⟩
                        replace sG := sG.below hb
                        replace cY := cY.below hb
                        replace hB := hB.trans (hb.mono hB.size)
                        replace hF := hF.trans (hb.mono hF.size)
                        clear hb
                        clear ex
                        by_cases hlt : yy < N
                        · have HLT := Lib.hid hlt
                          have cc := cmp_v cY.num (cNf.below hF).num
                          rw [cmpI_lt hlt] at cc
                          clear hlt
                          go_wp2_with fail
                          refine (cc).mono ?_; rintro e_ w43 ⟨rfl, hd⟩
                          have hb := hd.b
                          clear hd
                          replace sG := sG.below hb
                          replace cY := cY.below hb
                          replace cP := cP.below hb
                          replace hB := hB.trans (hb.mono hB.size)
                          replace hF := hF.trans (hb.mono hF.size)
                          clear hb
                          clear cc
                          by_cases hq : pp = M
                          · have hv : V = 0 := IFF.out.1 ⟨HLT.out, hq⟩
                            have gv : (V == 0) = true := by rw [hv]; rfl
                            have cc := cmp_v cP.num (cMf.below hF).num
                            rw [cmpI_eq hq] at cc
                            clear hq hv
                            go_wp2_with fail
                            refine (cc).mono ?_; rintro e_ w44 ⟨rfl, hd⟩
                            have hb := hd.b
                            clear hd
                            replace sG := sG.below hb
                            replace cY := cY.below hb
                            replace cP := cP.below hb
                            replace hB := hB.trans (hb.mono hB.size)
                            replace hF := hF.trans (hb.mono hF.size)
                            clear hb
                            clear cc
                            have vq := vv2 _ _ _ hF sG
                            clear vv2
                            go_wp2_with fail
                            refine vq.mono ?_; rintro e_ w45 ⟨rfl, hb⟩
                            replace hB := hB.trans (hb.mono hB.size)
                            clear vq hb
                            go_wp2_with fail
                            go_ret
                            exact ⟨rfl, hB⟩
                          · have hv0 : V ≠ 0 := fun k => hq (IFF.out.2 k).2
                            have gv : (V == 0) = false := by simpa using hv0
                            have hne : cmpI pp M ≠ 0 := by
                              unfold cmpI
                              split
                              · omega
                              · rw [if_pos (by omega)]; omega
                            obtain ⟨ci, hci⟩ : ∃ ci, ci = cmpI pp M := ⟨_, rfl⟩
                            rw [← hci] at hne
                            have hnb : (ci == 0) = false := by simpa using hne
                            have cc := cmp_v cP.num (cMf.below hF).num
                            rw [← hci] at cc
                            clear hci hq hv0 hne
                            go_wp2_with fail
                            refine (cc).mono ?_; rintro e_ w44 ⟨rfl, hd⟩
                            have hb := hd.b
                            clear hd
                            replace sG := sG.below hb
                            replace cY := cY.below hb
                            replace cP := cP.below hb
                            replace hB := hB.trans (hb.mono hB.size)
                            replace hF := hF.trans (hb.mono hF.size)
                            clear hb
                            clear cc
                            have vq := vv2 _ _ _ hF sG
                            clear vv2
                            go_wp2_with fail
                            refine vq.mono ?_; rintro e_ w45 ⟨rfl, hb⟩
                            replace hB := hB.trans (hb.mono hB.size)
                            clear vq hb
                            go_wp2_with fail
                            go_ret
                            exact ⟨rfl, hB⟩
                        · have hv0 : V ≠ 0 := fun k => hlt (IFF.out.2 k).1
                          have gv : (V == 0) = false := by simpa using hv0
                          have hci0 : 0 ≤ cmpI yy N := by unfold cmpI; rw [if_neg hlt]; split <;> omega
                          obtain ⟨ci, hci⟩ : ∃ ci, ci = cmpI yy N := ⟨_, rfl⟩
                          rw [← hci] at hci0
                          have hnb : decide (ci < 0) = false := decide_eq_false (by omega)
                          have cc := cmp_v cY.num (cNf.below hF).num
                          rw [← hci] at cc
                          clear hci hlt hv0
                          go_wp2_with fail
                          refine (cc).mono ?_; rintro e_ w43 ⟨rfl, hd⟩
                          have hb := hd.b
                          clear hd
                          replace sG := sG.below hb
                          replace cY := cY.below hb
                          replace cP := cP.below hb
                          replace hB := hB.trans (hb.mono hB.size)
                          replace hF := hF.trans (hb.mono hF.size)
                          clear hb
                          clear cc
                          have vq := vv2 _ _ _ hF sG
                          clear vv2
                          go_wp2_with fail
                          refine vq.mono ?_; rintro e_ w44 ⟨rfl, hb⟩
                          replace hB := hB.trans (hb.mono hB.size)
                          clear vq hb
                          go_wp2_with fail
                          go_ret
                          exact ⟨rfl, hB⟩
                  · have hkc : keyCode B [3] = 90 := keyCode_no hk
                    have vk1 := vk
                    unfold KeyPost at vk1
                    rw [hkc] at vk1
                    clear hk vk vv hkc
                    go_wp2_with fail
                    refine (vk1 _ hF).mono ?_; rintro e_ w60 ⟨rfl, hb⟩
                    replace hB := hB.trans (hb.mono hB.size)
                    clear hb vk1
                    go_wp2_with fail
                    go_ret
                    exact ⟨rfl, hB⟩
                · have gne : ((zB : Int) != (n : Int)) = true := by simp; omega
                  clear hsz vk
                  go_wp2_with fail
                  go_ret
                  exact ⟨rfl, hB⟩
              · have hci : cmpI N x ≤ 0 := by
                  rcases Nat.lt_or_ge N x with k | k
                  · rw [cmpI_lt k]; omega
                  · rw [cmpI_eq (by omega)]; omega
                obtain ⟨ci, hcc⟩ : ∃ ci, ci = cmpI N x := ⟨_, rfl⟩
                rw [← hcc] at hci cc
                have dci : decide (ci ≤ 0) = true := decide_eq_true hci
                clear hcc hNX hci
                go_wp2_with fail
                refine cc.mono ?_; rintro e_ w70 ⟨rfl, hd⟩
                replace hB := hB.trans (hd.b.mono hB.size)
                clear hd cc
                go_wp2_with fail
                go_ret
                exact ⟨rfl, hB⟩
            · have hci : cmpI N M ≤ 0 := by
                rcases Nat.lt_or_ge N M with k | k
                · rw [cmpI_lt k]; omega
                · rw [cmpI_eq (by omega)]; omega
              obtain ⟨ci, hcc⟩ : ∃ ci, ci = cmpI N M := ⟨_, rfl⟩
              rw [← hcc] at hci cc
              have dci : decide (ci ≤ 0) = true := decide_eq_true hci
              clear hcc hNM hci
              go_wp2_with fail
              refine cc.mono ?_; rintro e_ w71 ⟨rfl, hd⟩
              replace hB := hB.trans (hd.b.mono hB.size)
              clear hd cc
              go_wp2_with fail
              go_ret
              exact ⟨rfl, hB⟩
          · go_wp2_with fail
            refine sb.mono ?_; rintro e_ w8 ⟨_, p2, hb⟩
            have p3 := p2 (by omega)
            subst p3
            replace hB := hB.trans (hb.mono hB.size)
            clear hb p2 sb
            go_wp2_with fail
            go_ret
            exact ⟨rfl, hB⟩
  · have k1 : decide (IsHash h) = false := decide_eq_false hh
    clear hh
    rw [k1] at kn
    clear k1
    go_wp2_with fail
    refine (kn _).mono ?_; rintro e_ w' ⟨rfl, rfl⟩
    clear kn
    go_wp2_with fail
    go_ret
    exact ⟨rfl, hB⟩
end Go.Proofs.YtbmdifeanocahaaDoor
