import Derived.Test.YtbmdifeanocahaaDoorZ13
import Derived.Test.YtbmdifeanocahaaDoorZ31
import Derived.Test.YtbmdifeanocahaaDoorZ25
import Derived.Test.YtbmdifeanocahaaDoorZ5
import Derived.Test.YtbmdifeanocahaaDoorZ8
/- rsa1.Verify and signetref9.Verify, by their contracts. (Printed by gen_rsav.py.) -/
set_option linter.unusedVariables false
set_option linter.unusedSimpArgs false
namespace Go.Proofs.YtbmdifeanocahaaDoor
open Go.RowKit Go.Sg

theorem key_len {n e : List Int} (k : keyOk n e) (u : U8 n) : 256 ≤ n.length ∧ n.length ≤ 512 ∧ blen (bval n) = n.length := by
  obtain ⟨k1, k2, _, _, _, k3, k4, _⟩ := k
  have h := beN_lead u (a := 0) (by omega) (fun j hj => by omega) (.inr k2)
  have h2 := congrArg List.length h
  rw [beN_len, List.length_drop, Nat.sub_zero] at h2
  refine ⟨?_, ?_, h2⟩ <;> (rw [← h2]; unfold blen; omega)
theorem key_two {n e : List Int} (k : keyOk n e) : 2 ≤ bval n := by
  obtain ⟨_, _, _, _, _, k3, _, _⟩ := k
  refine Nat.not_lt.1 fun h => ?_
  have := (bl_le_iff (bval n) 1).2 (by omega)
  omega
theorem key_ok3 {n e : List Int} (k : keyOk n e) {s : Nat} (hs : s < bval n) : Ok3 s (bval e) (bval n) := by
  have k2 := key_two k
  obtain ⟨_, _, _, _, _, _, k4, _, _, k5⟩ := k
  have hm : bigB (bval n) = false := decide_eq_false (by omega)
  refine ⟨bigB_le (Nat.le_of_lt hs) hm, decide_eq_false ?_, hm, k2⟩
  have := (bl_le_iff (bval e) 32).2 (by omega)
  omega
theorem key_fits {n e : List Int} (k : keyOk n e) (u : U8 n) {h : Int} (hh : IsHash h) : rcode h (n.length : Int) = 0 ∧ rres h = fun m l => rres h m l := by
  obtain ⟨k1, k2, _⟩ := key_len k u
  refine ⟨?_, rfl⟩
  have := shaSize_le h
  have hf : rfits h (n.length : Int) := ⟨by omega, by omega⟩
  unfold rcode
  rw [if_pos hh, if_pos hf]
theorem key_enc {n e : List Int} (k : keyOk n e) (u : U8 n) {h : Int} (hh : IsHash h) (m : List Int) : rres h m (n.length : Int) = rOf h m n.length ∧ (rOf h m n.length).length = n.length := by
  obtain ⟨k1, k2, _⟩ := key_len k u
  have h6 := shaSize_le h
  refine ⟨?_, ?_⟩
  · have hf : rfits h (n.length : Int) := ⟨by omega, by omega⟩
    unfold rres
    rw [if_pos ⟨hh, hf⟩, Int.toNat_natCast]
  · unfold rOf
    simp only [List.length_append, List.length_replicate, infoOf_len, sha_len, List.length_cons, List.length_nil]
    omega
theorem rOf_u8 {n e : List Int} (k : keyOk n e) (u : U8 n) {h : Int} (hh : IsHash h) (m : List Int) : U8 (rOf h m n.length) := by
  rw [← (key_enc k u hh m).1]
  exact rres_u8 _ _ _
/-- What Verify says. -/
def vHolds (h : Int) (n e m s : List Int) : Prop := s.length = n.length ∧ bval s < bval n ∧ bval s ^ bval e % bval n = bval (rOf h m n.length)
instance (h : Int) (n e m s : List Int) : Decidable (vHolds h n e m s) := inferInstanceAs (Decidable (_ ∧ _ ∧ _))
def vcode (h : Int) (n e m s : List Int) : Int := if IsHash h then (if keyOk n e then (if vHolds h n e m s then 0 else 91) else 90) else 111
theorem keyCode_if (n e : List Int) : keyCode n e = if keyOk n e then 0 else 90 := rfl
def VPost (c : Int) (w : World) (e : Ending) (w' : World) : Prop := e = .returned (.int .i64 c) ∧ Below w.heap.size w w'
theorem power_bytes {n p : Nat} {W : List Int} (hp : p < 256 ^ n) (uW : U8 W) (hl : W.length = n) : beN p n = W ↔ p = bval W := by
  constructor
  · intro h
    rw [← h, bval_beN n p hp]
  · intro h
    rw [h, ← hl, beN_bval W.length W rfl uW]
theorem bytes_lim {bs : List Int} {k : Nat} (u : U8 bs) (h : bs.length ≤ 4 * k) : Lim k (bval bs) := ⟨by
  rw [R_pow_256]
  exact Nat.lt_of_lt_of_le (bval_lt u) (Nat.pow_le_pow_right (by decide) h)⟩
theorem frombytes_can {a : Option Addr} {cap : Nat} {bs : List Int} {W : World} (s : Sl .u8 W a cap bs) (u : U8 bs) (hl : bs.length ≤ 2097152) : Calls Tryd.prog 22 #[.slice a bs.length cap] W (CanPost (bval bs) W) :=
  (FromBytes_c a cap bs W s u (by omega)).mono fun e w' hp => hp.can (bytes_lim (k := 2097152) u (by omega)) (by omega)
theorem rfrombytes_can {a : Option Addr} {cap : Nat} {bs : List Int} {W : World} (s : Sl .u8 W a cap bs) (u : U8 bs) (hl : bs.length ≤ 2097152) : Calls Tryd.prog 45 #[.slice a bs.length cap] W (CanPost (bval bs) W) :=
  (rFromBytes_c a cap bs W s u (by omega)).mono fun e w' hp => hp.can (bytes_lim (k := 2097152) u (by omega)) (by omega)
theorem fixed_v {v : Value} {n : Nat} {W : World} (h : NumAt W v n) (size : Nat) (hs : size ≤ 16384) : Calls Tryd.prog 29 #[v, .int .i64 (size : Int)] W (FixedPost n (size : Int) W) := by
  obtain ⟨a, c, zs, rfl, s, u, rfl, hl⟩ := h
  exact Fixed_c _ _ _ _ _ s u (by omega) ⟨by omega, by omega⟩
theorem rcmp_v {v v' : Value} {n m : Nat} {W : World} (h : NumAt W v n) (h' : NumAt W v' m) : Calls Tryd.prog 46 #[v, v'] W (RCmpPost (cmpI n m) W) := by
  obtain ⟨a, c, zs, rfl, s, u, rfl, hl⟩ := h
  obtain ⟨a', c', zs', rfl, s', u', rfl, hl'⟩ := h'
  exact rCmp_c _ _ _ _ _ _ _ s s' u u'


set_option maxHeartbeats 8000000 in
set_option maxRecDepth 20000 in
theorem pVerify9_c (h : Int) (an ae am as_ : Option Addr) (pn pe pm ps : Nat) (n e m s : List Int) (w : World) (sn : Sl .u8 w an pn n) (se : Sl .u8 w ae pe e) (sm : Sl .u8 w am pm m) (ss : Sl .u8 w as_ ps s) (un : U8 n) (ue : U8 e) (um : U8 m) (us : U8 s) (ln : n.length ≤ 2097152) (le : e.length ≤ 2097152) (lm : m.length ≤ 2097152) (ls : s.length ≤ 2097152) (ht : ShaTabs w) (hi : Infos w) :
    Calls Tryd.prog 17 #[.int .i64 h, .slice an n.length pn, .slice ae e.length pe, .slice am m.length pm, .slice as_ s.length ps] w (VPost (vcode h n e m s) w) := by
  obtain ⟨code, hcode⟩ : ∃ c, c = vcode h n e m s := ⟨_, rfl⟩
  rw [← hcode]
  have HC := Lib.hid hcode
  clear hcode
  have kn := known_c h w
  go_enter Tryd.func17, Tryd.ntmps17
  have hB := Below.refl w.heap.size w
  by_cases hh : IsHash h
  · rw [show decide (IsHash h) = true from decide_eq_true hh] at kn
    have HH := Lib.hid hh
    clear hh
    go_wp2_with fail
    refine kn.mono ?_; rintro e_ w' ⟨rfl, rfl⟩
    clear kn
    go_wp2_with fail
    refine (Key_c _ _ _ _ _ _ _ sn se un ue (by omega) (by omega)).mono ?_; rintro e w1 ⟨rfl, hb⟩
    replace sn := sn.below hb
    replace se := se.below hb
    replace sm := sm.below hb
    replace ss := ss.below hb
    replace ht := ht.below hb
    replace hi := hi.below hb
    replace hB := hB.trans (hb.mono hB.size)
    clear hb
    by_cases hk : keyOk n e
    · rw [keyCode_ok hk]
      have HK := Lib.hid hk
      clear hk
      obtain ⟨nn, hnn⟩ : ∃ x, x = bval n := ⟨_, rfl⟩
      obtain ⟨xx, hxx⟩ : ∃ x, x = bval s := ⟨_, rfl⟩
      obtain ⟨ee, hee⟩ : ∃ x, x = bval e := ⟨_, rfl⟩
      have fN := fun W (h : Sl .u8 W an pn n) => frombytes_can h un ln
      have fS := fun W (h : Sl .u8 W as_ ps s) => frombytes_can h us ls
      have fE := fun W (h : Sl .u8 W ae pe e) => frombytes_can h ue le
      rw [← hnn] at fN
      rw [← hxx] at fS
      rw [← hee] at fE
      have HNN := Lib.hid hnn
      have HXX := Lib.hid hxx
      have HEE := Lib.hid hee
      clear hnn hxx hee
      go_wp2_with fail
      refine (fN _ sn).mono ?_; rintro e w2 ⟨vN, rfl, cN, hb⟩
      replace sn := sn.below hb
      replace se := se.below hb
      replace sm := sm.below hb
      replace ss := ss.below hb
      replace ht := ht.below hb
      replace hi := hi.below hb
      replace hB := hB.trans (hb.mono hB.size)
      clear hb
      go_wp2_with fail
      refine (fS _ ss).mono ?_; rintro e w3 ⟨vS, rfl, cS, hb⟩
      replace sn := sn.below hb
      replace se := se.below hb
      replace sm := sm.below hb
      replace ss := ss.below hb
      replace ht := ht.below hb
      replace hi := hi.below hb
      replace cN := cN.below hb
      replace hB := hB.trans (hb.mono hB.size)
      clear hb
      clear fN fS
      by_cases hl : s.length = n.length
      · have g1 : ((s.length : Int) != (n.length : Int)) = false := by simp [hl]
        have HL := Lib.hid hl
        obtain ⟨ns, hns⟩ : ∃ x, x = s.length := ⟨_, rfl⟩
        obtain ⟨nl_, hnl⟩ : ∃ x, x = n.length := ⟨_, rfl⟩
        rw [← hns, ← hnl] at g1
        have HNS := Lib.hid hns
        have HNL := Lib.hid hnl
        rw [← hns, ← hnl]
        clear hl hns hnl
        by_cases hlt : xx < nn
        · have HLT := Lib.hid hlt
          clear hlt
          go_wp2_with fail
          refine (cmp_v cS.num cN.num).mono ?_; rintro e w4 ⟨rfl, hb⟩
          replace sn := sn.below hb.b
          replace se := se.below hb.b
          replace sm := sm.below hb.b
          replace ss := ss.below hb.b
          replace ht := ht.below hb.b
          replace hi := hi.below hb.b
          replace cN := cN.below hb.b
          replace cS := cS.below hb.b
          replace hB := hB.trans (hb.b.mono hB.size)
          clear hb
          rw [cmpI_lt HLT.out]
          have ec := pREncode_c h (nl_ : Int) am pm m w4 sm um lm ht hi
          have cd : rcode h (nl_ : Int) = 0 := by rw [HNL.out]; exact (key_fits HK.out un HH.out).1
          have rs : rres h m (nl_ : Int) = rOf h m n.length := by rw [HNL.out]; exact (key_enc HK.out un HH.out m).1
          unfold REncPost at ec
          rw [cd, rs] at ec
          obtain ⟨Z, hZ⟩ : ∃ Z, Z = rOf h m n.length := ⟨_, rfl⟩
          rw [← hZ] at ec
          have uZ : U8 Z := by rw [hZ]; exact rOf_u8 HK.out un HH.out m
          have lZ : Hid (Z.length = nl_) := Lib.hid (by rw [hZ, HNL.out]; exact (key_enc HK.out un HH.out m).2)
          have HZ := Lib.hid hZ
          clear hZ cd rs
          go_wp2_with fail
          refine (ec).mono ?_; rintro e w5 ⟨v1, rfl, hn, hb⟩
          replace sn := sn.below hb
          replace se := se.below hb
          replace sm := sm.below hb
          replace ss := ss.below hb
          replace ht := ht.below hb
          replace hi := hi.below hb
          replace cN := cN.below hb
          replace cS := cS.below hb
          replace hB := hB.trans (hb.mono hB.size)
          clear hb
          obtain ⟨aZ, pZ, rfl, sZ⟩ := hn.sl
          clear hn ec
          go_wp2_with fail
          refine (fE _ se).mono ?_; rintro e w6 ⟨vE, rfl, cE, hb⟩
          replace sn := sn.below hb
          replace se := se.below hb
          replace sm := sm.below hb
          replace ss := ss.below hb
          replace ht := ht.below hb
          replace hi := hi.below hb
          replace cN := cN.below hb
          replace cS := cS.below hb
          replace sZ := sZ.below hb
          replace hB := hB.trans (hb.mono hB.size)
          clear hb
          clear fE
          have ok : Hid (Ok3 xx ee nn) := Lib.hid (by
            have h1 := key_ok3 HK.out (s := xx) (by rw [← HNN.out]; exact HLT.out)
            rwa [← HEE.out, ← HNN.out] at h1)
          go_wp2_with fail
          refine (mExp_ok cS.num cE.num cN.num ok.out).mono ?_; rintro e w7 ⟨vP, rfl, cP, hb⟩
          replace sn := sn.below hb
          replace se := se.below hb
          replace sm := sm.below hb
          replace ss := ss.below hb
          replace ht := ht.below hb
          replace hi := hi.below hb
          replace cN := cN.below hb
          replace cS := cS.below hb
          replace sZ := sZ.below hb
          replace cE := cE.below hb
          replace hB := hB.trans (hb.mono hB.size)
          clear hb
          obtain ⟨pp, hpp⟩ : ∃ x, x = xx ^ ee % nn := ⟨_, rfl⟩
          rw [← hpp] at cP
          have kl := key_len HK.out un
          rw [← HNN.out, ← HNL.out] at kl
          obtain ⟨kl1, kl2, kl3⟩ := kl
          have pn_ : pp < nn := by rw [hpp]; exact Nat.mod_lt _ (by have := ok.out.two; omega)
          have fx := fixed_v cP.num nl_ (by omega)
          have plt : pp < 256 ^ nl_ := by
            rw [← kl3]
            exact Nat.lt_trans pn_ (lt_blen nn)
          have ft : fitB pp (nl_ : Int) = true := by
            refine decide_eq_true ⟨by omega, by omega, ?_⟩
            rw [← kl3]
            have h1 := (bl_le_iff pp (bl nn)).2 (Nat.lt_trans pn_ (lt_bl nn))
            unfold blen
            omega
          unfold FixedPost fixL at fx
          rw [ft, if_pos rfl, Int.toNat_natCast] at fx
          obtain ⟨F, hF⟩ : ∃ F, F = beN pp nl_ := ⟨_, rfl⟩
          rw [← hF] at fx
          have uF : U8 F := by rw [hF]; exact beN_u8 _ _
          have lF : Hid (F.length = nl_) := Lib.hid (by rw [hF, beN_len])
          have iff1 : F = Z ↔ vHolds h n e m s := by
            rw [hF, power_bytes plt uZ lZ.out, hpp, HZ.out, HXX.out, HEE.out, HNN.out]
            exact ⟨fun h1 => ⟨HL.out, by rw [← HXX.out, ← HNN.out]; exact HLT.out, h1⟩, fun h1 => h1.2.2⟩
          have IFF := Lib.hid iff1
          clear hpp kl1 kl2 kl3 pn_ plt ft hF iff1
          go_wp2_with fail
          refine (fx).mono ?_; rintro e w8 ⟨v1, rfl, hn, hb⟩
          replace sn := sn.below hb
          replace se := se.below hb
          replace sm := sm.below hb
          replace ss := ss.below hb
          replace ht := ht.below hb
          replace hi := hi.below hb
          replace cN := cN.below hb
          replace cS := cS.below hb
          replace sZ := sZ.below hb
          replace cE := cE.below hb
          replace cP := cP.below hb
          replace hB := hB.trans (hb.mono hB.size)
          clear hb
          obtain ⟨aF, pF, rfl, sF⟩ := hn.sl
          clear hn fx
          have be := BEqual_c _ _ _ _ _ _ _ sF sZ uF uZ
          rw [lF.out, lZ.out] at be
          rw [lF.out]
          first | rw [lZ.out] | skip
          by_cases hv : vHolds h n e m s
          · rw [show decide (F = Z) = true from decide_eq_true (IFF.out.2 hv)] at be
            obtain rfl : code = 0 := by rw [HC.out]; unfold vcode; rw [if_pos HH.out, if_pos HK.out, if_pos hv]
            clear hv
            go_wp2_with fail
            refine be.mono ?_; rintro e_ w' ⟨rfl, rfl⟩
            go_wp2_with fail
            go_ret
            exact ⟨rfl, hB⟩
          · rw [show decide (F = Z) = false from decide_eq_false (fun h1 => hv (IFF.out.1 h1))] at be
            obtain rfl : code = 91 := by rw [HC.out]; unfold vcode; rw [if_pos HH.out, if_pos HK.out, if_neg hv]
            clear hv
            go_wp2_with fail
            refine be.mono ?_; rintro e_ w' ⟨rfl, rfl⟩
            go_wp2_with fail
            go_ret
            exact ⟨rfl, hB⟩
        · have hci : 0 ≤ cmpI xx nn := by unfold cmpI; rw [if_neg hlt]; split <;> omega
          obtain ⟨ci, hcc⟩ : ∃ ci, ci = cmpI xx nn := ⟨_, rfl⟩
          have cc := cmp_v cS.num cN.num
          rw [← hcc] at hci cc
          have hdc : decide ((0 : Int) ≤ ci) = true := decide_eq_true hci
          obtain rfl : code = 91 := by rw [HC.out]; unfold vcode; rw [if_pos HH.out, if_pos HK.out, if_neg (fun h1 => hlt (by rw [HXX.out, HNN.out]; exact h1.2.1))]
          clear hcc hlt
          go_wp2_with fail
          refine cc.mono ?_; rintro e_ w9 ⟨rfl, hd⟩
          go_wp2_with fail
          go_ret
          exact ⟨rfl, hB.trans (hd.b.mono hB.size)⟩
      · have g1 : ((s.length : Int) != (n.length : Int)) = true := by simp; omega
        obtain rfl : code = 91 := by rw [HC.out]; unfold vcode; rw [if_pos HH.out, if_pos HK.out, if_neg (fun h1 => hl h1.1)]
        clear hl
        go_wp2_with fail
        go_ret
        exact ⟨rfl, hB⟩
    · rw [keyCode_no hk]
      obtain rfl : code = 90 := by rw [HC.out]; unfold vcode; rw [if_pos HH.out, if_neg hk]
      clear hk
      go_wp2_with fail
      go_ret
      exact ⟨rfl, hB⟩
  · rw [show decide (IsHash h) = false from decide_eq_false hh] at kn
    obtain rfl : code = 111 := by rw [HC.out]; unfold vcode; rw [if_neg hh]
    clear hh
    go_wp2_with fail
    refine kn.mono ?_; rintro e_ w' ⟨rfl, rfl⟩
    go_wp2_with fail
    go_ret
    exact ⟨rfl, hB⟩

set_option maxHeartbeats 8000000 in
set_option maxRecDepth 20000 in
theorem rVerify9_c (h : Int) (an ae am as_ : Option Addr) (pn pe pm ps : Nat) (n e m s : List Int) (w : World) (sn : Sl .u8 w an pn n) (se : Sl .u8 w ae pe e) (sm : Sl .u8 w am pm m) (ss : Sl .u8 w as_ ps s) (un : U8 n) (ue : U8 e) (um : U8 m) (us : U8 s) (ln : n.length ≤ 2097152) (le : e.length ≤ 2097152) (lm : m.length ≤ 2097152) (ls : s.length ≤ 2097152) (ht : RefTabs w) :
    Calls Tryd.prog 18 #[.int .i64 h, .slice an n.length pn, .slice ae e.length pe, .slice am m.length pm, .slice as_ s.length ps] w (VPost (vcode h n e m s) w) := by
  obtain ⟨code, hcode⟩ : ∃ c, c = vcode h n e m s := ⟨_, rfl⟩
  rw [← hcode]
  have HC := Lib.hid hcode
  clear hcode
  go_enter Tryd.func18, Tryd.ntmps18
  have hB := Below.refl w.heap.size w
  by_cases hh : IsHash h
  · have h1 : decide (h < 1) = false := decide_eq_false (by unfold IsHash at hh; omega)
    have h3 : decide (3 < h) = false := decide_eq_false (by unfold IsHash at hh; omega)
    have HH := Lib.hid hh
    clear hh
    go_wp2_with fail
    refine (rKey_c _ _ _ _ _ _ _ sn se un ue (by omega) (by omega)).mono ?_; rintro e w1 ⟨rfl, hb⟩
    replace sn := sn.below hb
    replace se := se.below hb
    replace sm := sm.below hb
    replace ss := ss.below hb
    replace ht := ht.below hb
    replace hB := hB.trans (hb.mono hB.size)
    clear hb
    by_cases hk : keyOk n e
    · rw [keyCode_ok hk]
      have HK := Lib.hid hk
      clear hk
      obtain ⟨nn, hnn⟩ : ∃ x, x = bval n := ⟨_, rfl⟩
      obtain ⟨xx, hxx⟩ : ∃ x, x = bval s := ⟨_, rfl⟩
      obtain ⟨ee, hee⟩ : ∃ x, x = bval e := ⟨_, rfl⟩
      have fN := fun W (h : Sl .u8 W an pn n) => rfrombytes_can h un ln
      have fS := fun W (h : Sl .u8 W as_ ps s) => rfrombytes_can h us ls
      have fE := fun W (h : Sl .u8 W ae pe e) => rfrombytes_can h ue le
      rw [← hnn] at fN
      rw [← hxx] at fS
      rw [← hee] at fE
      have HNN := Lib.hid hnn
      have HXX := Lib.hid hxx
      have HEE := Lib.hid hee
      clear hnn hxx hee
      go_wp2_with fail
      refine (fN _ sn).mono ?_; rintro e w2 ⟨vN, rfl, cN, hb⟩
      replace sn := sn.below hb
      replace se := se.below hb
      replace sm := sm.below hb
      replace ss := ss.below hb
      replace ht := ht.below hb
      replace hB := hB.trans (hb.mono hB.size)
      clear hb
      go_wp2_with fail
      refine (fS _ ss).mono ?_; rintro e w3 ⟨vS, rfl, cS, hb⟩
      replace sn := sn.below hb
      replace se := se.below hb
      replace sm := sm.below hb
      replace ss := ss.below hb
      replace ht := ht.below hb
      replace cN := cN.below hb
      replace hB := hB.trans (hb.mono hB.size)
      clear hb
      clear fN fS
      by_cases hl : s.length = n.length
      · have g1 : ((s.length : Int) != (n.length : Int)) = false := by simp [hl]
        have HL := Lib.hid hl
        obtain ⟨ns, hns⟩ : ∃ x, x = s.length := ⟨_, rfl⟩
        obtain ⟨nl_, hnl⟩ : ∃ x, x = n.length := ⟨_, rfl⟩
        rw [← hns, ← hnl] at g1
        have HNS := Lib.hid hns
        have HNL := Lib.hid hnl
        rw [← hns, ← hnl]
        clear hl hns hnl
        by_cases hlt : xx < nn
        · have HLT := Lib.hid hlt
          clear hlt
          go_wp2_with fail
          refine (rcmp_v cS.num cN.num).mono ?_; rintro e w' ⟨rfl, rfl⟩
          rw [cmpI_lt HLT.out]
          have ec := rREncode_c h (nl_ : Int) am pm m w3 sm um lm ht
          have cd : rcode h (nl_ : Int) = 0 := by rw [HNL.out]; exact (key_fits HK.out un HH.out).1
          have rs : rres h m (nl_ : Int) = rOf h m n.length := by rw [HNL.out]; exact (key_enc HK.out un HH.out m).1
          unfold REncPost at ec
          rw [cd, rs] at ec
          obtain ⟨Z, hZ⟩ : ∃ Z, Z = rOf h m n.length := ⟨_, rfl⟩
          rw [← hZ] at ec
          have uZ : U8 Z := by rw [hZ]; exact rOf_u8 HK.out un HH.out m
          have lZ : Z.length ≤ 2097152 := by rw [hZ, (key_enc HK.out un HH.out m).2]; exact ln
          have HZ := Lib.hid hZ
          clear hZ cd rs
          go_wp2_with fail
          refine (ec).mono ?_; rintro e w4 ⟨v1, rfl, hn, hb⟩
          replace sn := sn.below hb
          replace se := se.below hb
          replace sm := sm.below hb
          replace ss := ss.below hb
          replace ht := ht.below hb
          replace cN := cN.below hb
          replace cS := cS.below hb
          replace hB := hB.trans (hb.mono hB.size)
          clear hb
          obtain ⟨aZ, pZ, rfl, sZ⟩ := hn.sl
          clear hn ec
          go_wp2_with fail
          refine (fE _ se).mono ?_; rintro e w5 ⟨vE, rfl, cE, hb⟩
          replace sn := sn.below hb
          replace se := se.below hb
          replace sm := sm.below hb
          replace ss := ss.below hb
          replace ht := ht.below hb
          replace cN := cN.below hb
          replace cS := cS.below hb
          replace sZ := sZ.below hb
          replace hB := hB.trans (hb.mono hB.size)
          clear hb
          clear fE
          have ok : Hid (Ok3 xx ee nn) := Lib.hid (by
            have h1 := key_ok3 HK.out (s := xx) (by rw [← HNN.out]; exact HLT.out)
            rwa [← HEE.out, ← HNN.out] at h1)
          have ex : Calls Tryd.prog 48 #[vS, vE, vN] w5 (OkPost (xx ^ ee % nn) w5) := (exp7_v cS.num cE.num cN.num).mono fun e_ w' hp => hp.ok ok.out.code (ok.out.lim.of_lt (Nat.mod_lt _ (by have := ok.out.two; omega))) (by omega)
          go_wp2_with fail
          refine (ex).mono ?_; rintro e w6 ⟨vP, rfl, cP, hb⟩
          replace sn := sn.below hb
          replace se := se.below hb
          replace sm := sm.below hb
          replace ss := ss.below hb
          replace ht := ht.below hb
          replace cN := cN.below hb
          replace cS := cS.below hb
          replace sZ := sZ.below hb
          replace cE := cE.below hb
          replace hB := hB.trans (hb.mono hB.size)
          clear hb
          clear ex
          go_wp2_with fail
          refine (rfrombytes_can sZ uZ lZ).mono ?_; rintro e w7 ⟨vQ, rfl, cQ, hb⟩
          replace sn := sn.below hb
          replace se := se.below hb
          replace sm := sm.below hb
          replace ss := ss.below hb
          replace ht := ht.below hb
          replace cN := cN.below hb
          replace cS := cS.below hb
          replace sZ := sZ.below hb
          replace cE := cE.below hb
          replace cP := cP.below hb
          replace hB := hB.trans (hb.mono hB.size)
          clear hb
          obtain ⟨pp, hpp⟩ : ∃ x, x = xx ^ ee % nn := ⟨_, rfl⟩
          rw [← hpp] at cP
          obtain ⟨zz, hzz⟩ : ∃ x, x = bval Z := ⟨_, rfl⟩
          rw [← hzz] at cQ
          have cc := rcmp_v cP.num cQ.num
          have iff1 : pp = zz ↔ vHolds h n e m s := by
            rw [hpp, hzz, HZ.out, HXX.out, HEE.out, HNN.out]
            exact ⟨fun h1 => ⟨HL.out, by rw [← HXX.out, ← HNN.out]; exact HLT.out, h1⟩, fun h1 => h1.2.2⟩
          by_cases hv : vHolds h n e m s
          · rw [cmpI_eq (iff1.2 hv)] at cc
            obtain rfl : code = 0 := by rw [HC.out]; unfold vcode; rw [if_pos HH.out, if_pos HK.out, if_pos hv]
            clear hv iff1 hpp hzz
            go_wp2_with fail
            refine cc.mono ?_; rintro e_ w' ⟨rfl, rfl⟩
            go_wp2_with fail
            go_ret
            exact ⟨rfl, hB⟩
          · have hne : cmpI pp zz ≠ 0 := by
              have : pp ≠ zz := fun h1 => hv (iff1.1 h1)
              unfold cmpI
              split
              · omega
              · rw [if_pos (by omega)]; omega
            obtain ⟨ci, hci⟩ : ∃ ci, ci = cmpI pp zz := ⟨_, rfl⟩
            rw [← hci] at cc hne
            have hnb : (ci != 0) = true := by simpa using hne
            obtain rfl : code = 91 := by rw [HC.out]; unfold vcode; rw [if_pos HH.out, if_pos HK.out, if_neg hv]
            clear hv iff1 hpp hzz hci
            go_wp2_with fail
            refine cc.mono ?_; rintro e_ w' ⟨rfl, rfl⟩
            go_wp2_with fail
            go_ret
            exact ⟨rfl, hB⟩
        · have hci : 0 ≤ cmpI xx nn := by unfold cmpI; rw [if_neg hlt]; split <;> omega
          obtain ⟨ci, hcc⟩ : ∃ ci, ci = cmpI xx nn := ⟨_, rfl⟩
          have cc := rcmp_v cS.num cN.num
          rw [← hcc] at hci cc
          have hdc : decide ((0 : Int) ≤ ci) = true := decide_eq_true hci
          obtain rfl : code = 91 := by rw [HC.out]; unfold vcode; rw [if_pos HH.out, if_pos HK.out, if_neg (fun h1 => hlt (by rw [HXX.out, HNN.out]; exact h1.2.1))]
          clear hcc hlt
          go_wp2_with fail
          refine cc.mono ?_; rintro e_ w9 ⟨rfl, rfl⟩
          go_wp2_with fail
          go_ret
          exact ⟨rfl, hB⟩
      · have g1 : ((s.length : Int) != (n.length : Int)) = true := by simp; omega
        obtain rfl : code = 91 := by rw [HC.out]; unfold vcode; rw [if_pos HH.out, if_pos HK.out, if_neg (fun h1 => hl h1.1)]
        clear hl
        go_wp2_with fail
        go_ret
        exact ⟨rfl, hB⟩
    · rw [keyCode_no hk]
      obtain rfl : code = 90 := by rw [HC.out]; unfold vcode; rw [if_pos HH.out, if_neg hk]
      clear hk
      go_wp2_with fail
      go_ret
      exact ⟨rfl, hB⟩
  · obtain rfl : code = 111 := by rw [HC.out]; unfold vcode; rw [if_neg hh]
    by_cases hl1 : h < 1
    · have h1 : decide (h < 1) = true := decide_eq_true hl1
      clear hh
      go_wp2_with fail
      go_ret
      exact ⟨rfl, hB⟩
    · have h1 : decide (h < 1) = false := decide_eq_false hl1
      have h3 : decide (3 < h) = true := decide_eq_true (by unfold IsHash at hh; omega)
      clear hh
      go_wp2_with fail
      go_ret
      exact ⟨rfl, hB⟩
end Go.Proofs.YtbmdifeanocahaaDoor
