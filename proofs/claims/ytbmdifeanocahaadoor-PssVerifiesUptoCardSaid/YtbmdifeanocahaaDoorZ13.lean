import Derived.Test.YtbmdifeanocahaaDoorZ10
import Derived.Test.YtbmdifeanocahaaDoorZ12
/- signetref7: rest, wrong, Exp, by their contracts. -/
set_option linter.unusedVariables false
set_option linter.unusedSimpArgs false
namespace Go.Proofs.YtbmdifeanocahaaDoor
open Go.RowKit Go.Sg

section
variable {v v' : Value} {n m : Nat} {W : World}
theorem trim_v (h : NumAt W v n) : Calls Tryd.prog 79 #[v] W (NatPost n W) := by
  obtain ⟨a, c, zs, rfl, s, u, rfl, hl⟩ := h
  exact trim_c _ _ _ _ s u (by omega)
theorem times_v (h : NumAt W v n) (h' : NumAt W v' m) : Calls Tryd.prog 82 #[v, v'] W (NatPost (n * m) W) := by
  obtain ⟨a, c, zs, rfl, s, u, rfl, hl⟩ := h
  obtain ⟨a', c', zs', rfl, s', u', rfl, hl'⟩ := h'
  exact times7_c _ _ _ _ _ _ _ s s' u u' (by omega) (by omega)
theorem divide_v (h : NumAt W v n) (h' : NumAt W v' m) (h0 : 0 < m) : Calls Tryd.prog 95 #[v, v'] W (Div7Post n m W) := by
  obtain ⟨a, c, zs, rfl, s, u, rfl, hl⟩ := h
  obtain ⟨a', c', zs', rfl, s', u', rfl, hl'⟩ := h'
  exact divide7_c _ _ _ _ _ _ _ s s' u u' (by omega) (by omega) h0
theorem cmp7_v (h : NumAt W v n) (h' : NumAt W v' m) : Calls Tryd.prog 61 #[v, v'] W (RCmpPost (cmpI n m) W) := by
  obtain ⟨a, c, zs, rfl, s, u, rfl, hl⟩ := h
  obtain ⟨a', c', zs', rfl, s', u', rfl, hl'⟩ := h'
  exact cmp7_c _ _ _ _ _ _ _ s s' u u'
theorem bit7_v (h : NumAt W v n) (i : Nat) (hi : i ≤ 9223372036854775807) : Calls Tryd.prog 83 #[v, .int .i64 (i : Int)] W fun e w' => e = .returned (.bool (decide (n / 2 ^ i % 2 = 1))) ∧ W = w' := by
  obtain ⟨a, c, zs, rfl, s, u, rfl, hl⟩ := h
  exact bit7_c _ _ _ _ _ s u hi
end
set_option maxHeartbeats 1000000 in
theorem rest7_v {v v' : Value} {n m : Nat} {W : World} (h : NumAt W v n) (h' : NumAt W v' m) (h0 : 0 < m) : Calls Tryd.prog 80 #[v, v'] W (NatPost (n % m) W) := by
  have dc := divide_v h h' h0
  clear h h' h0
  go_enter Tryd.func80, Tryd.ntmps80
  go_wp2_with fail
  refine dc.mono ?_; rintro e w1 ⟨vq, vr, rfl, hq, hr, hb⟩
  clear dc
  go_wp2_with fail
  go_ret
  exact ⟨vr, rfl, hr, hb⟩
theorem one7_c (W : World) : Calls Tryd.prog 81 #[] W (fun e w' => e = .returned (.slice (some ⟨W.heap.size, 0, none⟩) 1 1) ∧ w' = W.alloc (.cells #[.int .u32 1] 51)) := by
  go_enter Tryd.func81, Tryd.ntmps81
  go_wp2_with fail
  go_ret
  exact ⟨rfl, rfl⟩

set_option maxHeartbeats 2000000 in
theorem wrong7_c (bk cap : Nat) (ps : List NPart) {vm : Value} {m : Nat} (w : World) (hm0 : NumAt w vm m) (hr : NRows w bk ps) (hn : ps.length ≤ 4611686018427387904) (hl : ∀ p ∈ ps, p.xs.length ≤ 17592186044415) :
    Calls Tryd.prog 78 #[vm, .slice (some ⟨bk, 0, none⟩) ps.length cap] w (IntPost (wrongN (ps.map NPart.num ++ [m])) w) := by
  have tr : ∀ i, (h : i < ps.length) → ∀ W, Below w.heap.size w W → Calls Tryd.prog 79 #[ps[i].val] W (NatPost ps[i].num W) :=
    fun i h W hb => trim_v ((NumAt.of (hr.sl _ (List.getElem_mem h)) (hr.u _ (List.getElem_mem h)) (hl _ (List.getElem_mem h))).below hb)
  have lim : ∀ i, (h : i < ps.length) → Lim 17592186044415 ps[i].num := fun i h => Lim.of_list (hr.u _ (List.getElem_mem h)) (hl _ (List.getElem_mem h))
  have cell : ∀ i, (h : i < ps.length) → ∀ W, Below w.heap.size w W → W.cell? ⟨bk, i, none⟩ = some ps[i].val := fun i h W hb => by
    have c := hr.cell i h
    exact (World.cell?_of_block (a := ⟨bk, i, none⟩) (hb.block bk (World.block_lt_of_cell? w _ c))).trans c
  have TR := Lib.hid tr
  have LI := Lib.hid lim
  have CE := Lib.hid cell
  obtain ⟨n, hn0⟩ : ∃ n, n = ps.length := ⟨_, rfl⟩
  have HN := Lib.hid hn0
  rw [← hn0] at hn ⊢
  clear tr lim cell hn0 hl hr
  go_enter Tryd.func78, Tryd.ntmps78
  go_wp2_with fail
  go_loopw [5] (fun t wr => ∃ i : Nat, i ≤ n ∧ t = .int .i64 (i : Int) ∧ (∀ p ∈ ps.take i, bigB p.num = false) ∧ Below w.heap.size w wr) (fun t _ => n - (intOf t).toNat)
  case atStart => exact ⟨0, by omega, rfl, (fun p hp => by simp at hp), .refl _ _⟩
  case round =>
    obtain ⟨i, hi, rfl, hall, hB⟩ := hrel
    have HA := Lib.hid hall
    clear hall
    by_cases hlt : i < n
    · have hlt2 : i < ps.length := by rw [← HN.out]; exact hlt
      have c1 := CE.out i hlt2 wr hB
      have t1 := TR.out i hlt2 wr hB
      have l1 := LI.out i hlt2
      obtain ⟨p, hpp⟩ : ∃ p, p = ps[i] := ⟨_, rfl⟩
      rw [← hpp] at c1 t1 l1
      have hmem : Hid (p ∈ ps) := Lib.hid (by rw [hpp]; exact List.getElem_mem hlt2)
      have htk : Hid (ps.take (i + 1) = ps.take i ++ [p]) := Lib.hid (by rw [List.take_succ_eq_append_getElem hlt2, ← hpp])
      obtain ⟨v, hv⟩ : ∃ v, v = p.val := ⟨_, rfl⟩
      rw [← hv] at c1 t1
      obtain ⟨k, hk⟩ : ∃ k, k = p.num := ⟨_, rfl⟩
      rw [← hk] at t1 l1
      have HK := Lib.hid hk
      have hd0 : decide ((i : Int) < (n : Int)) = true := decide_eq_true (by omega)
      clear hpp hv hk hlt2
      go_wp2_with fail
      refine t1.mono ?_; rintro e w2 ⟨v2, rfl, r2, hb⟩
      have cn := r2.can l1 (Nat.le_refl _)
      obtain ⟨a2, c2, rfl⟩ := cn.len
      obtain ⟨q, hq⟩ : ∃ q, q = nl k := ⟨_, rfl⟩
      rw [← hq]
      have hB2 := hB.trans (hb.mono hB.size)
      clear r2 hb cn t1
      by_cases hbig : 128 < q
      · have hd : decide ((128 : Int) < (q : Int)) = true := decide_eq_true (by omega)
        have fin : Hid (wrongN (ps.map NPart.num ++ [m]) = 10) := Lib.hid (by
          have hb3 : bigB k = true := by rw [← nl_big, ← hq]; exact decide_eq_true hbig
          unfold wrongN
          rw [if_pos]
          rw [List.any_append, Bool.or_eq_true]
          left
          rw [List.any_map, List.any_eq_true]
          exact ⟨p, hmem.out, by rw [Function.comp_apply, ← HK.out]; exact hb3⟩)
        clear hq
        go_wp2_with fail
        go_ret
        exact ⟨by rw [fin.out]; first | done | rfl, hB2⟩
      · have hd : decide ((128 : Int) < (q : Int)) = false := decide_eq_false (by omega)
        have hno : Hid (bigB p.num = false) := Lib.hid (by rw [← HK.out, ← nl_big, ← hq]; exact decide_eq_false hbig)
        clear hq
        go_wp2_with fail
        go_roundw
        case rel => exact ⟨i + 1, by omega, by go_num, (fun x hx => by
          rw [htk.out, List.mem_append, List.mem_singleton] at hx
          rcases hx with hx | rfl
          · exact HA.out x hx
          · exact hno.out), hB2⟩
        case measure => simp [intOf]; omega
    · obtain rfl : i = n := by omega
      have hd0 : decide ((i : Int) < (i : Int)) = false := by simp
      have hnone : Hid ((ps.map NPart.num).any bigB = false) := Lib.hid (by
        rw [List.any_map, List.any_eq_false]
        intro x hx
        have := HA.out x (by rw [List.take_of_length_le (by rw [← HN.out]; omega)]; exact hx)
        simp [this])
      have nm := hm0.below hB
      have hbs := hB.size
      go_wp2_with fail
      refine (trim_v nm).mono ?_; rintro e w2 ⟨v2, rfl, r2, hb⟩
      have cn := r2.can nm.lim (Nat.le_refl _)
      obtain ⟨a2, c2, rfl⟩ := cn.len
      obtain ⟨q, hq⟩ : ∃ q, q = nl m := ⟨_, rfl⟩
      rw [← hq]
      replace nm := nm.below hb
      have hB2 := hB.trans (hb.mono hB.size)
      clear r2 hb cn
      have hlast : (ps.map NPart.num ++ [m]).getLastD 0 = m := by rw [List.getLastD_eq_getLast?, List.getLast?_append]; rfl
      by_cases hbig : 128 < q
      · have hd : decide ((128 : Int) < (q : Int)) = true := decide_eq_true (by omega)
        have fin : Hid (wrongN (ps.map NPart.num ++ [m]) = 10) := Lib.hid (by
          have hb3 : bigB m = true := by rw [← nl_big, ← hq]; exact decide_eq_true hbig
          unfold wrongN
          rw [if_pos]
          rw [List.any_append, hnone.out]
          simp [hb3])
        clear hq hlast
        go_wp2_with fail
        go_ret
        exact ⟨by rw [fin.out]; first | done | rfl, hB2⟩
      · have hd : decide ((128 : Int) < (q : Int)) = false := decide_eq_false (by omega)
        have hno : bigB m = false := by rw [← nl_big, ← hq]; exact decide_eq_false hbig
        have code : Hid (wrongN (ps.map NPart.num ++ [m]) = if m < 2 then 60 else 0) := Lib.hid (by
          unfold wrongN
          rw [if_neg, hlast]
          rw [List.any_append, hnone.out]
          simp [hno])
        clear hq hlast hno
        go_wp2_with fail
        refine (one7_c w2).mono ?_; rintro e w3 ⟨rfl, rfl⟩
        have n1 := num_one w2
        have hb1 := below_one w2 (.cells #[.int .u32 1] 51)
        replace nm := nm.below hb1
        have hB3 := hB2.trans (hb1.mono hB2.size)
        have cc := cmp7_v nm n1
        clear hb1 n1
        by_cases h2 : m < 2
        · have hci : cmpI m 1 ≤ 0 := by unfold cmpI; split; omega; rw [if_neg (by omega)]; omega
          obtain ⟨c, hc⟩ : ∃ c, c = cmpI m 1 := ⟨_, rfl⟩
          rw [← hc] at cc hci
          have hdc : decide (c ≤ 0) = true := decide_eq_true hci
          have fin : Hid (wrongN (ps.map NPart.num ++ [m]) = 60) := Lib.hid (by rw [code.out, if_pos h2])
          clear hc h2
          go_wp2_with fail
          refine cc.mono ?_; rintro e w' ⟨rfl, rfl⟩
          go_wp2_with fail
          go_ret
          exact ⟨by rw [fin.out]; first | done | rfl, hB3⟩
        · have hci : cmpI m 1 = 1 := cmpI_gt (by omega)
          rw [hci] at cc
          have fin : Hid (wrongN (ps.map NPart.num ++ [m]) = 0) := Lib.hid (by rw [code.out, if_neg h2])
          clear hci h2
          go_wp2_with fail
          refine cc.mono ?_; rintro e w' ⟨rfl, rfl⟩
          go_wp2_with fail
          go_ret
          exact ⟨by rw [fin.out]; first | done | rfl, hB3⟩
end Go.Proofs.YtbmdifeanocahaaDoor
/- signetref7.Exp by its contract. (Printed by gen_ref7e.py.) -/
set_option linter.unusedVariables false
set_option linter.unusedSimpArgs false
namespace Go.Sg
theorem lt_nl (n : Nat) : n < 2 ^ (32 * nl n) := Nat.lt_of_lt_of_le (lt_bl n) (Nat.pow_le_pow_right (by decide) (by unfold nl; omega))
theorem nl_le_of_lim {k n : Nat} (h : Lim k n) : nl n ≤ k := by
  have h1 := h.lt
  rw [Rpow_two] at h1
  have := (bl_le_iff n (32 * k)).2 h1
  unfold nl
  omega
end Go.Sg
namespace Go.Proofs.YtbmdifeanocahaaDoor
open Go.RowKit Go.Sg

set_option maxHeartbeats 4000000 in
theorem exp7_c (a a' a'' : Option Addr) (cap cap' cap'' : Nat) (xs ys zs : List Int) (w : World) (sx : Sl .u32 w a cap xs) (sy : Sl .u32 w a' cap' ys) (sz : Sl .u32 w a'' cap'' zs) (ux : U32 xs) (uy : U32 ys) (uz : U32 zs) (hl : xs.length ≤ 17592186044415) (hl' : ys.length ≤ 17592186044415) (hl'' : zs.length ≤ 17592186044415) :
    Calls Tryd.prog 48 #[.slice a xs.length cap, .slice a' ys.length cap', .slice a'' zs.length cap''] w (ModPost (wrongN [val xs, val ys, val zs]) (val xs ^ val ys % val zs) w) := by
  have nr := nrows_new w 38 [⟨a, cap, xs⟩, ⟨a', cap', ys⟩] #[.slice a xs.length cap, .slice a' ys.length cap'] rfl (by simp; exact ⟨sx, sy⟩) (by simp; exact ⟨ux, uy⟩) (by simp; omega)
  have hb0 := (Below.refl w.heap.size w).alloc (Nat.le_refl _) (.cells #[.slice a xs.length cap, .slice a' ys.length cap'] 38)
  have wc := wrong7_c w.heap.size 2 _ _ ((NumAt.of sz uz hl'').below hb0) nr (by simp) (by simp; omega)
  simp only [List.length_cons, List.length_nil, Nat.zero_add, Nat.reduceAdd, List.map_cons, List.map_nil, NPart.num, List.cons_append, List.nil_append] at wc
  have hok := fun h => wrongN_ok (ns := [val xs, val ys, val zs]) h
  simp only [List.mem_cons, List.not_mem_nil, or_false, forall_eq_or_imp, forall_eq, List.getLastD_cons, List.getLastD_nil] at hok
  obtain ⟨code, hcode⟩ : ∃ c, c = wrongN [val xs, val ys, val zs] := ⟨_, rfl⟩
  rw [← hcode] at wc hok ⊢
  clear nr hcode
  by_cases hc : code = 0
  · obtain ⟨⟨mx, my, mz⟩, h2⟩ := hok hc
    subst hc
    clear hok
    have nx := (NumAt.of sx ux hl).below hb0
    have ny := (NumAt.of sy uy hl').below hb0
    have nz := (NumAt.of sz uz hl'').below hb0
    obtain ⟨X, hX⟩ : ∃ X, X = val xs := ⟨_, rfl⟩
    obtain ⟨E, hE⟩ : ∃ E, E = val ys := ⟨_, rfl⟩
    obtain ⟨m, hm⟩ : ∃ m, m = val zs := ⟨_, rfl⟩
    rw [← hX] at nx mx ⊢
    rw [← hE] at ny my ⊢
    rw [← hm] at nz mz h2 ⊢
    clear hX hE hm sx sy sz
    go_enter Tryd.func48, Tryd.ntmps48
    go_wp2_with fail
    obtain ⟨w0, hw0⟩ : ∃ x, x = w.alloc (.cells #[.slice a xs.length cap, .slice a' ys.length cap'] 38) := ⟨_, rfl⟩
    rw [← hw0] at hb0 nx ny nz wc ⊢
    refine wc.mono ?_; rintro e w00 ⟨rfl, hbw⟩
    replace nx := nx.below hbw
    replace ny := ny.below hbw
    replace nz := nz.below hbw
    have hB := hb0.trans (hbw.mono hb0.size)
    clear wc hw0 hb0 hbw
    have hmp : 0 < m := by omega
    have HM := Lib.hid hmp
    clear h2 hmp
    have hBs0 := hB.size
    go_wp2_with fail
    refine (trim_v ny).mono ?_; rintro e w01 ⟨vE, rfl, hn, hb⟩
    have cE := hn.can my (by omega)
    have nE := cE.num
    obtain ⟨aE, pE, rfl⟩ := cE.len
    replace nx := nx.below hb
    replace nz := nz.below hb
    replace hB := hB.trans (hb.mono hB.size)
    obtain ⟨le, hle⟩ : ∃ le, le = nl E := ⟨_, rfl⟩
    rw [← hle] at nE ⊢
    have lim : le ≤ 128 := by rw [hle]; exact nl_le_of_lim my
    have HLE := Lib.hid hle
    clear hn hb cE hle ny hBs0
    go_wp2_with fail
    refine (rest7_v nx nz HM.out).mono ?_; rintro e w1 ⟨vA, rfl, hn, hb⟩
    replace nE := nE.below hb
    replace nz := nz.below hb
    replace hB := hB.trans (hb.mono hB.size)
    obtain ⟨A, hA⟩ : ∃ A, A = X % m := ⟨_, rfl⟩
    rw [← hA] at hn
    have mA : Lim 128 A := by rw [hA]; exact mz.of_lt (Nat.mod_lt _ HM.out)
    have nA := hn.num mA (by omega)
    have fin : Hid (X ^ E % m = A ^ E % m) := Lib.hid (by rw [hA, ← Nat.pow_mod])
    clear hn hb nx hA
    go_wp2_with fail
    refine (one7_c w1).mono ?_; rintro e w11 ⟨rfl, rfl⟩
    have hb := below_one w1 (.cells #[.int .u32 1] 51)
    have n1 := num_one w1
    replace nE := nE.below hb
    replace nz := nz.below hb
    replace nA := nA.below hb
    replace hB := hB.trans (hb.mono hB.size)
    have hBs := hB.size
    clear hb
    go_wp2_with fail
    refine (rest7_v n1 nz HM.out).mono ?_; rintro e w2 ⟨v2, rfl, hn, hb⟩
    replace nE := nE.below hb
    replace nz := nz.below hb
    replace nA := nA.below hb
    replace hB := hB.trans (hb.mono hB.size)
    replace hn := hn.mono hBs
    obtain ⟨B, hBB⟩ : ∃ B, B = 32 * le := ⟨_, rfl⟩
    have hBl : B ≤ 4096 := by omega
    have eB : Hid (32 * (le : Int) - 1 = (B : Int) - 1) := Lib.hid (by omega)
    have hst : ExpRel A E m B w.heap.size w v2 (.int .i64 (32 * (le : Int) - 1)) w2 := ⟨B, Nat.le_refl _, by rw [eB.out], by rw [hBB, HLE.out, Nat.div_eq_of_lt (lt_nl E)]; exact hn, hB⟩
    clear hBB hn n1 hBs hb
    go_wp2_with fail
    go_loopw [9, 10] (fun v t wr => ExpRel A E m B w.heap.size w v t wr ∧ Below w2.heap.size w2 wr) (fun _ t _ => (intOf t + 1).toNat)
    case atStart => exact ⟨hst, .refl _ _⟩
    case round =>
      clear hst
      obtain ⟨⟨i, hi, rfl, hr, hb⟩, hb2⟩ := hrel
      have nE2 := nE.below hb2
      have nz2 := nz.below hb2
      have nA2 := nA.below hb2
      have lo := mz.of_lt (Nat.mod_lt (A ^ (E / 2 ^ i)) HM.out)
      have no := hr.num lo (by omega)
      have hbs := hb.size
      obtain ⟨wy, hwy⟩ : ∃ x : World, x = wr := ⟨_, rfl⟩
      subst hwy
      cases i with
      | zero =>
        have e1 : ((0 : Nat) : Int) - 1 = -1 := by omega
        rw [e1]
        rw [Nat.pow_zero, Nat.div_one] at hr
        rw [← fin.out] at hr
        clear no lo nE2 nz2 nA2 e1
        go_wp2_with fail
        go_ret2
        exact ⟨fun h => absurd rfl h, fun _ => ⟨_, rfl, hr⟩, hb⟩
      | succ j =>
        have e1 : ((j + 1 : Nat) : Int) - 1 = (j : Int) := by omega
        rw [e1]
        have E1 := Lib.hid e1
        obtain ⟨o, ho⟩ : ∃ o, o = A ^ (E / 2 ^ (j + 1)) % m := ⟨_, rfl⟩
        rw [← ho] at lo no
        have HO := Lib.hid ho
        have hj0 : (0 : Int) ≤ (j : Int) := by omega
        have hd0 : decide ((0 : Int) ≤ (j : Int)) = true := decide_eq_true hj0
        have hw1 : IntKind.i64.wrap ((j : Int) - 1) = (j : Int) - 1 := by rw [IntKind.wrap_i64]; omega
        clear hr e1 ho
        go_wp2_with fail
        refine (times_v no no).mono ?_; rintro e w3 ⟨v3, rfl, hn, hb3⟩
        have n3 := hn.num (lo.mul lo) (by omega)
        replace nE2 := nE2.below hb3
        replace nz2 := nz2.below hb3
        replace nA2 := nA2.below hb3
        replace hb := hb.trans (hb3.mono hb.size)
        have hb2' := hb2.trans (hb3.mono hb2.size)
        clear hn hb3 no hb2
        go_wp2_with fail
        refine (rest7_v n3 nz2 HM.out).mono ?_; rintro e w4 ⟨v4, rfl, hn, hb4⟩
        have l4 := mz.of_lt (Nat.mod_lt (o * o) HM.out)
        have n4 := hn.num l4 (by omega)
        have r4 := hn.mono hb.size
        replace nE2 := nE2.below hb4
        replace nz2 := nz2.below hb4
        replace nA2 := nA2.below hb4
        replace hb := hb.trans (hb4.mono hb.size)
        replace hb2' := hb2'.trans (hb4.mono hb2'.size)
        clear hn hb4 n3
        have bc := bit7_v nE2 j (by omega)
        obtain ⟨bt, hbt⟩ : ∃ bt, bt = E / 2 ^ j % 2 := ⟨_, rfl⟩
        rw [← hbt] at bc
        by_cases hb1 : bt = 1
        · rw [show decide (bt = 1) = true from decide_eq_true hb1] at bc
          have fin2 : Hid (o * o % m * A % m = A ^ (E / 2 ^ j) % m) := Lib.hid (by rw [HO.out]; exact pow_bit1 A E j m (by rw [← hbt, hb1]))
          clear hbt hb1
          go_wp2_with fail
          refine bc.mono ?_; rintro e w' ⟨rfl, rfl⟩
          clear bc r4
          go_wp2_with fail
          refine (times_v n4 nA2).mono ?_; rintro e w6 ⟨v6, rfl, hn, hb6⟩
          have n6 := hn.num (l4.mul mA) (by omega)
          replace nz2 := nz2.below hb6
          replace hb := hb.trans (hb6.mono hb.size)
          replace hb2' := hb2'.trans (hb6.mono hb2'.size)
          clear hn hb6 n4
          go_wp2_with fail
          refine (rest7_v n6 nz2 HM.out).mono ?_; rintro e w7 ⟨v7, rfl, hn, hb7⟩
          have r7 := hn.mono hb.size
          rw [fin2.out] at r7
          replace hb := hb.trans (hb7.mono hb.size)
          replace hb2' := hb2'.trans (hb7.mono hb2'.size)
          clear hn hb7 n6
          go_wp2_with fail
          go_roundw
          case rel => exact ⟨⟨j, by omega, rfl, r7, hb⟩, hb2'⟩
          case measure => simp [intOf]
        · rw [show decide (bt = 1) = false from decide_eq_false hb1] at bc
          have fin2 : Hid (o * o % m = A ^ (E / 2 ^ j) % m) := Lib.hid (by rw [HO.out]; exact pow_bit0 A E j m (by omega))
          clear hbt hb1
          rw [fin2.out] at r4
          go_wp2_with fail
          refine bc.mono ?_; rintro e w' ⟨rfl, rfl⟩
          clear bc
          go_wp2_with fail
          go_roundw
          case rel => exact ⟨⟨j, by omega, rfl, r4, hb⟩, hb2'⟩
          case measure => simp [intOf]
  · have hne : (code != 0) = true := by simpa using hc
    have HC := Lib.hid hc
    clear hok hc
    go_enter Tryd.func48, Tryd.ntmps48
    go_wp2_with fail
    refine wc.mono ?_; rintro e w0 ⟨rfl, hbw⟩
    have hB := hb0.trans (hbw.mono hb0.size)
    clear wc
    go_wp2_with fail
    go_ret2
    exact ⟨fun _ => rfl, fun h => absurd h HC.out, hB⟩
theorem exp7_v {v v' v'' : Value} {n n' m : Nat} {W : World} (h : NumAt W v n) (h' : NumAt W v' n') (h'' : NumAt W v'' m) : Calls Tryd.prog 48 #[v, v', v''] W (ModPost (wrongN [n, n', m]) (n ^ n' % m) W) := by
  obtain ⟨a, c, zs, rfl, s, u, rfl, hl⟩ := h
  obtain ⟨a', c', zs', rfl, s', u', rfl, hl'⟩ := h'
  obtain ⟨a'', c'', zs'', rfl, s'', u'', rfl, hl''⟩ := h''
  exact exp7_c _ _ _ _ _ _ _ _ _ _ s s' s'' u u' u'' hl hl' hl''
end Go.Proofs.YtbmdifeanocahaaDoor
