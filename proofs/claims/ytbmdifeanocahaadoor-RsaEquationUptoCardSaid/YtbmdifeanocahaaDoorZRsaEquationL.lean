import Derived.Test.YtbmdifeanocahaaDoorZ31
/- signetlaw9.RsaEquation by its contract. (Printed by gen_rsaequation.py.) -/
set_option linter.unusedVariables false
set_option linter.unusedSimpArgs false
namespace Go.Proofs.YtbmdifeanocahaaDoor
open Go.RowKit Go.Sg

theorem bval_bl {s : List Int} (u : U8 s) : bl (bval s) ≤ 8 * s.length := (bl_le_iff _ _).2 (by rw [Nat.pow_mul]; exact bval_lt u)
theorem key_ok3' {n e s : List Int} (k : keyOk n e) (un : U8 n) (us : U8 s) (hl : s.length = n.length) : Ok3 (bval s) (bval e) (bval n) := by
  have k2 := key_two k
  have hn := (key_len k un).2.1
  have hs := bval_bl us
  obtain ⟨_, _, _, _, _, _, k4, _, _, k5⟩ := k
  have h1 := (bl_le_iff (bval e) 32).2 (by omega)
  exact ⟨decide_eq_false (by omega), decide_eq_false (by omega), decide_eq_false (by omega), k2⟩

set_option maxHeartbeats 16000000 in
set_option maxRecDepth 20000 in
theorem RsaEquation_c (h : Int) (an ae am as_ : Option Addr) (pn pe pm ps : Nat) (n e m s : List Int) (w : World) (sn : Sl .u8 w an pn n) (se : Sl .u8 w ae pe e) (sm : Sl .u8 w am pm m) (ss : Sl .u8 w as_ ps s) (un : U8 n) (ue : U8 e) (um : U8 m) (us : U8 s) (hz : n.length + e.length + m.length + s.length ≤ 1048576) (ht : ShaTabs w) (hi : Infos w) :
    Calls Tryd.prog 5 #[.int .i64 h, .slice an n.length pn, .slice ae e.length pe, .slice am m.length pm, .slice as_ s.length ps] w (TruePost w) := by
  obtain ⟨zn, hzn⟩ : ∃ z, z = n.length := ⟨_, rfl⟩
  obtain ⟨ze, hze⟩ : ∃ z, z = e.length := ⟨_, rfl⟩
  obtain ⟨zm, hzm⟩ : ∃ z, z = m.length := ⟨_, rfl⟩
  obtain ⟨zs, hzs⟩ : ∃ z, z = s.length := ⟨_, rfl⟩
  rw [← hzn, ← hze, ← hzm, ← hzs] at hz ⊢
  obtain ⟨V, hV⟩ : ∃ C, C = vcode h n e m s := ⟨_, rfl⟩
  have va : ∀ W, Below w.heap.size w W → Calls Tryd.prog 17 #[.int .i64 h, .slice an zn pn, .slice ae ze pe, .slice am zm pm, .slice as_ zs ps] W (VPost V W) := by
    intro W hB
    have := pVerify9_c h an ae am as_ pn pe pm ps n e m s W (sn.below hB) (se.below hB) (sm.below hB) (ss.below hB) un ue um us (by omega) (by omega) (by omega) (by omega) (ht.below hB) (hi.below hB)
    rwa [← hzn, ← hze, ← hzm, ← hzs, ← hV] at this
  have vk : ∀ W, Below w.heap.size w W → Calls Tryd.prog 21 #[.slice an zn pn, .slice ae ze pe] W (KeyPost n e W) := by
    intro W hB
    have := Key_c an ae pn pe n e W (sn.below hB) (se.below hB) un ue (by omega) (by omega)
    rwa [← hzn, ← hze] at this
  have al_ := alive_c w ht hi
  have kn := fun W => known9_c h W
  have HV := Lib.hid hV
  have HN := Lib.hid hzn
  have HS := Lib.hid hzs
  have HE := Lib.hid hze
  have HM := Lib.hid hzm
  clear hV hzn hzs hze hzm
  go_enter Tryd.func5, Tryd.ntmps5
  have hB := Below.refl w.heap.size w
  go_wp2_with fail
  refine (al_).mono ?_; rintro e w1 ⟨rfl, hb⟩
  replace hB := hB.trans (hb.mono hB.size)
  clear hb
  clear al_
  go_wp2_with fail
  refine (va _ hB).mono ?_; rintro e w2 ⟨rfl, hb⟩
  replace hB := hB.trans (hb.mono hB.size)
  clear hb
  clear va
  by_cases hh : IsHash h
  · have k1 : decide (IsHash h) = true := decide_eq_true hh
    have HH := Lib.hid hh
    clear hh
    rw [k1] at kn
    go_wp2_with fail
    refine (kn _).mono ?_; rintro e_ w' ⟨rfl, rfl⟩
    clear kn k1
    go_wp2_with fail
    refine (vk _ hB).mono ?_; rintro e w3 ⟨rfl, hb⟩
    replace hB := hB.trans (hb.mono hB.size)
    clear hb
    by_cases hk : keyOk n e
    · rw [keyCode_ok hk]
      have HK := Lib.hid hk
      clear hk
      by_cases hl : zs = zn
      · subst hl
        have LL : Hid (s.length = n.length) := Lib.hid (by rw [← HS.out, ← HN.out])
        have LK := key_len HK.out un
        rw [← HN.out] at LK
        obtain ⟨lk1, lk2, _⟩ := LK
        have g0 : ((zs : Int) != (zs : Int)) = false := by simp
        obtain ⟨nn, hnn⟩ : ∃ x, x = bval n := ⟨_, rfl⟩
        obtain ⟨xx, hxx⟩ : ∃ x, x = bval s := ⟨_, rfl⟩
        obtain ⟨ee, hee⟩ : ∃ x, x = bval e := ⟨_, rfl⟩
        have fN := fun W (h : Below w.heap.size w W) => frombytes_can (sn.below h) un (by have := HN.out; omega)
        have fS := fun W (h : Below w.heap.size w W) => frombytes_can (ss.below h) us (by have := HS.out; omega)
        have fE := fun W (h : Below w.heap.size w W) => frombytes_can (se.below h) ue (by have := HE.out; omega)
        rw [← hnn, ← HN.out] at fN
        rw [← hxx, ← HS.out] at fS
        rw [← hee, ← HE.out] at fE
        have ok : Hid (Ok3 xx ee nn) := Lib.hid (by rw [hxx, hee, hnn]; exact key_ok3' HK.out un us LL.out)
        have HNN := Lib.hid hnn
        have HXX := Lib.hid hxx
        have HEE := Lib.hid hee
        clear hnn hxx hee
        have ec := fun W (hB : Below w.heap.size w W) => pREncode_c h (zs : Int) am pm m W (sm.below hB) um (by rw [← HM.out]; omega) (ht.below hB) (hi.below hB)
        have cd : rcode h (zs : Int) = 0 := by rw [HN.out]; exact (key_fits HK.out un HH.out).1
        have rs : rres h m (zs : Int) = rOf h m n.length := by rw [HN.out]; exact (key_enc HK.out un HH.out m).1
        unfold REncPost at ec
        rw [cd, rs, ← HM.out] at ec
        obtain ⟨Z, hZ⟩ : ∃ Z, Z = rOf h m n.length := ⟨_, rfl⟩
        rw [← hZ] at ec
        have uZ : U8 Z := by rw [hZ]; exact rOf_u8 HK.out un HH.out m
        have lZ : Hid (Z.length = zs) := Lib.hid (by rw [hZ, HN.out]; exact (key_enc HK.out un HH.out m).2)
        have fZ := fun W a c (k : Sl .u8 W a c Z) => frombytes_can k uZ (by rw [lZ.out]; omega)
        rw [lZ.out] at fZ
        obtain ⟨pp, hpp⟩ : ∃ x, x = xx ^ ee % nn := ⟨_, rfl⟩
        obtain ⟨zz, hzz⟩ : ∃ x, x = bval Z := ⟨_, rfl⟩
        have ex := fun {W : World} {v v' v'' : Value} (h1 : NumAt W v xx) (h2 : NumAt W v' ee) (h3 : NumAt W v'' nn) => mExp_ok h1 h2 h3 ok.out
        rw [← hpp] at ex
        rw [← hzz] at fZ
        have iff1 : (xx < nn ∧ pp = zz) ↔ V = 0 := by
          rw [HV.out, hpp, hzz, hZ, HXX.out, HEE.out, HNN.out]
          unfold vcode
          rw [if_pos HH.out, if_pos HK.out]
          by_cases hv : vHolds h n e m s
          · rw [if_pos hv]; exact ⟨fun _ => rfl, fun _ => hv.2⟩
          · rw [if_neg hv]; exact ⟨fun k => absurd ⟨LL.out, k⟩ hv, fun k => by simp at k⟩
        have v91 : V = 0 ∨ V = 91 := by
          rw [HV.out]
          unfold vcode
          rw [if_pos HH.out, if_pos HK.out]
          split <;> simp
        have IFF := Lib.hid iff1
        have V91 := Lib.hid v91
        clear hZ hpp hzz cd rs iff1 v91 HV
        go_wp2_with fail
        refine (fN _ hB).mono ?_; rintro e w4 ⟨vN, rfl, cN, hb⟩
        replace hB := hB.trans (hb.mono hB.size)
        clear hb
        clear fN
        go_wp2_with fail
        refine (fS _ hB).mono ?_; rintro e w5 ⟨vS, rfl, cS, hb⟩
        replace cN := cN.below hb
        replace hB := hB.trans (hb.mono hB.size)
        clear hb
        clear fS
        go_wp2_with fail
        refine (ec _ hB).mono ?_; rintro e w6 ⟨v1, rfl, hn, hb⟩
        replace cN := cN.below hb
        replace cS := cS.below hb
        replace hB := hB.trans (hb.mono hB.size)
        clear hb
        obtain ⟨aZ, pZ, rfl, sZ⟩ := hn.sl
        rw [lZ.out]
        clear hn ec
        go_wp2_with fail
        refine (fE _ hB).mono ?_; rintro e w7 ⟨vE, rfl, cE, hb⟩
        replace cN := cN.below hb
        replace cS := cS.below hb
        replace sZ := sZ.below hb
        replace hB := hB.trans (hb.mono hB.size)
        clear hb
        clear fE
        go_wp2_with fail
        refine (ex cS.num cE.num cN.num).mono ?_; rintro e w8 ⟨vP, rfl, cP, hb⟩
        replace cN := cN.below hb
        replace cS := cS.below hb
        replace sZ := sZ.below hb
        replace cE := cE.below hb
        replace hB := hB.trans (hb.mono hB.size)
        clear hb
        clear ex
        clear cE
        by_cases hlt : xx < nn
        · have HLT := Lib.hid hlt
          have cc := cmp_v cS.num cN.num
          rw [cmpI_lt hlt] at cc
          go_wp2_with fail
          refine (cc).mono ?_; rintro e w9 ⟨rfl, hd⟩
          have hb := hd.b
          clear hd cc
          replace cN := cN.below hb
          replace cS := cS.below hb
          replace sZ := sZ.below hb
          replace cP := cP.below hb
          replace hB := hB.trans (hb.mono hB.size)
          clear hb
          clear hlt
          go_wp2_with fail
          refine (fZ _ _ _ sZ).mono ?_; rintro e w10 ⟨vQ, rfl, cQ, hb⟩
          replace cN := cN.below hb
          replace cS := cS.below hb
          replace sZ := sZ.below hb
          replace cP := cP.below hb
          replace hB := hB.trans (hb.mono hB.size)
          clear hb
          clear fZ
          by_cases hq : pp = zz
          · obtain rfl : V = 0 := IFF.out.1 ⟨HLT.out, hq⟩
            have cc := cmp_v cP.num cQ.num
            rw [cmpI_eq hq] at cc
            go_wp2_with fail
            refine (cc).mono ?_; rintro e w11 ⟨rfl, hd⟩
            have hb := hd.b
            clear hd cc
            replace cN := cN.below hb
            replace cS := cS.below hb
            replace sZ := sZ.below hb
            replace cP := cP.below hb
            replace cQ := cQ.below hb
            replace hB := hB.trans (hb.mono hB.size)
            clear hb
            clear hq
            go_wp2_with fail
            go_ret
            exact ⟨rfl, hB⟩
          · have hv0 : V ≠ 0 := fun k => hq (IFF.out.2 k).2
            obtain rfl : V = 91 := V91.out.resolve_left hv0
            have hne : cmpI pp zz ≠ 0 := by
              unfold cmpI
              split
              · omega
              · rw [if_pos (by omega)]; omega
            obtain ⟨ci, hci⟩ : ∃ ci, ci = cmpI pp zz := ⟨_, rfl⟩
            rw [← hci] at hne
            have hnb : (ci == 0) = false := by simpa using hne
            have cc0 := cmp_v cP.num cQ.num
            rw [← hci] at cc0
            clear hci hq hv0 hne
            go_wp2_with fail
            refine (cc0).mono ?_; rintro e w11 ⟨rfl, hd⟩
            have hb := hd.b
            clear hd cc0
            replace cN := cN.below hb
            replace cS := cS.below hb
            replace sZ := sZ.below hb
            replace cP := cP.below hb
            replace cQ := cQ.below hb
            replace hB := hB.trans (hb.mono hB.size)
            clear hb
            go_wp2_with fail
            go_ret
            exact ⟨rfl, hB⟩
        · have hv0 : V ≠ 0 := fun k => hlt (IFF.out.2 k).1
          obtain rfl : V = 91 := V91.out.resolve_left hv0
          have hci0 : 0 ≤ cmpI xx nn := by unfold cmpI; rw [if_neg hlt]; split <;> omega
          obtain ⟨ci, hci⟩ : ∃ ci, ci = cmpI xx nn := ⟨_, rfl⟩
          rw [← hci] at hci0
          have hnb : decide (ci < 0) = false := decide_eq_false (by omega)
          have cc0 := cmp_v cS.num cN.num
          rw [← hci] at cc0
          clear hci hlt hv0
          go_wp2_with fail
          refine (cc0).mono ?_; rintro e w9 ⟨rfl, hd⟩
          have hb := hd.b
          clear hd cc0
          replace cN := cN.below hb
          replace cS := cS.below hb
          replace sZ := sZ.below hb
          replace cP := cP.below hb
          replace hB := hB.trans (hb.mono hB.size)
          clear hb
          go_wp2_with fail
          go_ret
          exact ⟨rfl, hB⟩
      · obtain rfl : V = 91 := by rw [HV.out]; unfold vcode; rw [if_pos HH.out, if_pos HK.out, if_neg (fun k => hl (by rw [HS.out, HN.out]; exact k.1))]
        have g0 : ((zs : Int) != (zn : Int)) = true := by simp; omega
        clear hl
        go_wp2_with fail
        go_ret
        exact ⟨rfl, hB⟩
    · rw [keyCode_no hk]
      obtain rfl : V = 90 := by rw [HV.out]; unfold vcode; rw [if_pos HH.out, if_neg hk]
      clear hk
      go_wp2_with fail
      go_ret
      exact ⟨rfl, hB⟩
  · have k1 : decide (IsHash h) = false := decide_eq_false hh
    obtain rfl : V = 111 := by rw [HV.out]; unfold vcode; rw [if_neg hh]
    clear hh
    rw [k1] at kn
    go_wp2_with fail
    refine (kn _).mono ?_; rintro e_ w' ⟨rfl, rfl⟩
    clear kn k1
    go_wp2_with fail
    go_ret
    exact ⟨rfl, hB⟩
end Go.Proofs.YtbmdifeanocahaaDoor
