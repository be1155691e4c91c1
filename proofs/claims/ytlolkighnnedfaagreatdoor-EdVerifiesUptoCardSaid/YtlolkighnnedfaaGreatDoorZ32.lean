import Derived.Test.YtlolkighnnedfaaGreatDoorZ31
import Derived.Test.YtlolkighnnedfaaGreatDoorZ20
import Derived.Deep.LoopGhost
import Derived.Test.YtlolkighnnedfaaGreatDoorZ22
/- signetref13: its numbers, and its reckoning modulo the prime by folding, by contracts. -/
set_option linter.unusedVariables false
set_option linter.unusedSimpArgs false
namespace Go.Sg
theorem fold_step {z t : List Int} {k : Nat} (u : U32 z) (cz : Canon z) (hl : 8 < z.length) (hk : val z = k) : val (z.take 8) + val (z.drop 8) * 38 < k ∧ (val (z.take 8) + val (z.drop 8) * 38) % eP = k % eP ∧ val (z.drop 8) * 38 ≤ k := by
  have h1 := val_split z 8 (by omega)
  have h2 := cz.ge u (by omega)
  have h3 := val_take_lt u 8 (by omega)
  have h4 : R ^ 8 ≤ R ^ (z.length - 1) := Nat.pow_le_pow_right R_pos (by omega)
  have e : R ^ 8 = 2 * eP + 38 := by decide +kernel
  rw [hk] at h1 h2
  generalize val (z.take 8) = a at *
  generalize val (z.drop 8) = b at *
  have hb : 0 < b := by
    refine Nat.pos_of_ne_zero fun h0 => ?_
    rw [h0, Nat.mul_zero] at h1
    omega
  have e2 : R ^ 8 * b = eP * (2 * b) + b * 38 := by rw [e, Nat.add_mul, Nat.mul_comm 2 eP, Nat.mul_assoc, Nat.mul_comm 38 b]
  rw [e2] at h1
  have hp : 0 < eP := by decide +kernel
  have h5 : 0 < eP * (2 * b) := Nat.mul_pos hp (by omega)
  refine ⟨by omega, ?_, by omega⟩
  rw [h1, ← Nat.add_assoc, Nat.add_right_comm, Nat.add_mul_mod_self_left]
end Go.Sg
namespace Go.Proofs.YtlolkighnnedfaaGreatDoor
open Go.RowKit Go.Sg
theorem plus7_v {v v' : Value} {n m : Nat} {W : World} (h : NumAt W v n) (h' : NumAt W v' m) : Calls Tryz.prog 68 #[v, v'] W (NatPost (n + m) W) := by
  obtain ⟨a, c, zs, rfl, s, u, rfl, hl⟩ := h
  obtain ⟨a', c', zs', rfl, s', u', rfl, hl'⟩ := h'
  exact plus7_c _ _ _ _ _ _ _ s s' u u' (by omega) (by omega)
theorem minus7_v {v v' : Value} {n m : Nat} {W : World} (h : NumAt W v n) (h' : NumAt W v' m) (hge : m ≤ n) : Calls Tryz.prog 29 #[v, v'] W (NatPost (n - m) W) := by
  obtain ⟨a, c, zs, rfl, s, u, rfl, hl⟩ := h
  obtain ⟨a', c', zs', rfl, s', u', rfl, hl'⟩ := h'
  exact minus7_c _ _ _ _ _ _ _ s s' u u' hge (by omega) (by omega)
/-- Eight limbs written out. -/
theorem NatRes.row8 {B g n : Nat} {w : World} {L : List Int} (h : Rw w g 64 (L.map (Value.int .u32))) (hB : B ≤ g) (l : Limb8 L n) : NatRes B w (.slice (some ⟨g, 0, none⟩) 8 8) n := by
  have hb : Blk w g .u32 64 L := h
  refine ⟨L, ?_, l.can, l.u, l.val⟩
  have := New.of_blk hb hB 8 8 (Nat.le_refl _) (by rw [l.len]; omega) (by omega)
  rwa [List.take_of_length_le (by rw [l.len]; omega)] at this
theorem rP_c (w : World) : Calls Tryz.prog 30 #[] w (CanPost eP w) := by
  go_enter Tryz.func30, Tryz.ntmps30
  go_wp2_with fail
  go_ret
  have hk : Rw (w.alloc (.cells (limbP.map (Value.int .u32)).toArray 64)) w.heap.size 64 (limbP.map (Value.int .u32)) := Rw.new _ _ _
  exact ⟨_, rfl, (NatRes.row8 hk (Nat.zero_le _) lim8_P).can lim_eP (by omega), (Below.refl _ _).alloc (Nat.le_refl _) _⟩
theorem rL_c (w : World) : Calls Tryz.prog 25 #[] w (CanPost eL w) := by
  go_enter Tryz.func25, Tryz.ntmps25
  go_wp2_with fail
  go_ret
  have hk : Rw (w.alloc (.cells (limbL.map (Value.int .u32)).toArray 64)) w.heap.size 64 (limbL.map (Value.int .u32)) := Rw.new _ _ _
  exact ⟨_, rfl, (NatRes.row8 hk (Nat.zero_le _) lim8_L).can lim_eL (by omega), (Below.refl _ _).alloc (Nat.le_refl _) _⟩
theorem rcurve_c (w : World) : Calls Tryz.prog 67 #[] w (CanPost eD.val w) := by
  go_enter Tryz.func67, Tryz.ntmps67
  go_wp2_with fail
  go_ret
  have hk : Rw (w.alloc (.cells (limbD.map (Value.int .u32)).toArray 64)) w.heap.size 64 (limbD.map (Value.int .u32)) := Rw.new _ _ _
  exact ⟨_, rfl, (NatRes.row8 hk (Nat.zero_le _) lim8_D).fp, (Below.refl _ _).alloc (Nat.le_refl _) _⟩
theorem rroot_c (w : World) : Calls Tryz.prog 70 #[] w (CanPost eI.val w) := by
  go_enter Tryz.func70, Tryz.ntmps70
  go_wp2_with fail
  go_ret
  have hk : Rw (w.alloc (.cells (limbI.map (Value.int .u32)).toArray 64)) w.heap.size 64 (limbI.map (Value.int .u32)) := Rw.new _ _ _
  exact ⟨_, rfl, (NatRes.row8 hk (Nat.zero_le _) lim8_I).fp, (Below.refl _ _).alloc (Nat.le_refl _) _⟩
set_option maxHeartbeats 4000000 in
set_option maxRecDepth 20000 in
theorem low_c {v : Value} {n : Nat} {w : World} (h : CanAt w v n) : Calls Tryz.prog 28 #[v] w (NatPost (n % eP) w) := by
  obtain ⟨r, hr⟩ : ∃ r, r = n % eP := ⟨_, rfl⟩
  rw [← hr]
  have HR := Lib.hid hr
  clear hr
  go_enter Tryz.func28, Tryz.ntmps28
  go_wp2_with fail
  go_loopg [0] n (fun k s0 wr => CanAt wr s0 k ∧ r = k % eP ∧ Below w.heap.size w wr)
  case atStart => exact ⟨h, HR.out, .refl _ _⟩
  case round =>
    obtain ⟨cv, hr, hB⟩ := hrel
    have HK := Lib.hid hr
    clear h hr
    obtain ⟨a, c, z, rfl, sz, cz, uz, hv, hlz⟩ := cv
    have klim : Lim 17592186044415 gk := by rw [← hv]; exact .of_list uz hlz
    have HV := Lib.hid hv
    by_cases h8 : 8 < z.length
    · have FS := fold_step (t := []) uz cz h8 hv
      have l1 : (z.take 8).length = 8 := by rw [List.length_take]; omega
      have l2 : (z.drop 8).length = z.length - 8 := by rw [List.length_drop]
      have s1 := sz.take 8
      obtain ⟨ad, sd, rd⟩ := sz.from (P := Tryz.prog) (T := 29) (E := 64) Tryz.underlying29 size32r 8 (by omega)
      rw [show ((8 : Nat) : Int) = 8 from rfl] at rd
      have rt := fun W => run_to (P := Tryz.prog) W 29 64 Tryz.underlying29 size32r a z.length c 8 (by have := sz.le; omega) 8 rfl
      have n1 : NumAt wr (.slice a 8 c) (val (z.take 8)) := ⟨a, c, z.take 8, by rw [l1], s1, uz.take (by omega) 8, rfl, by rw [l1]; omega⟩
      have n2 : NumAt wr (.slice ad (z.length - 8) (c - 8)) (val (z.drop 8)) := ⟨ad, c - 8, z.drop 8, by rw [l2], sd, uz.drop (by omega) 8, rfl, by rw [l2]; omega⟩
      obtain ⟨A, hA⟩ : ∃ A, A = val (z.take 8) := ⟨_, rfl⟩
      obtain ⟨D, hD⟩ : ∃ D, D = val (z.drop 8) := ⟨_, rfl⟩
      rw [← hA] at n1
      rw [← hD] at n2
      rw [← hA, ← hD] at FS
      obtain ⟨F1, F2, F3⟩ := FS
      have HF1 := Lib.hid F1
      have HF2 := Lib.hid F2
      have limT : Lim 17592186044415 (D * 38) := klim.le F3
      have limS : Lim 17592186044415 (A + D * 38) := klim.le (Nat.le_of_lt F1)
      obtain ⟨m, hm⟩ : ∃ m, m = z.length := ⟨_, rfl⟩
      have hd0 : decide ((8 : Int) < (m : Int)) = true := decide_eq_true (by omega)
      rw [← hm] at n2 rd rt ⊢
      have hz : (m : Int) ≤ 9223372036854775807 := by omega
      have hcm : (m : Int) ≤ (c : Int) := by have := sz.le; omega
      have hz8 : (8 : Int) ≤ (m : Int) := by omega
      clear sz cz uz s1 sd l1 l2 hA hD F1 F2 F3 hm h8 hlz hv HV
      go_wp2_with fail
      refine wp_region_held_drew (S := fun W_ => True) (by kernel_rfl) (trivial) (fun hS => ?_)
      refine wpAnyH_take (i := 0) (v := ?_) rfl (by kernel_rfl) (by kernel_rfl) (by kernel_rfl) (fun _ _ _ h => h) (Or.inl ⟨by rfl, ?_⟩) hS ?_
      rotate_left
      · intro w _; go_simp; try with_reducible rfl
      simp only [List.getElem_toArray, List.getElem_cons_zero, List.getElem_cons_succ, Act.put, List.setIfInBounds_toArray, List.set_cons_zero, List.set_cons_succ]
      refine wpAnyH_take (i := 1) (v := ?_) rfl (by kernel_rfl) (by kernel_rfl) (by kernel_rfl) (fun _ _ _ h => h) (Or.inl ⟨by rfl, ?_⟩) hS ?_
      rotate_left
      · intro w _; go_simp; try with_reducible rfl
      simp only [List.getElem_toArray, List.getElem_cons_zero, List.getElem_cons_succ, Act.put, List.setIfInBounds_toArray, List.set_cons_zero, List.set_cons_succ]
      refine wpAnyH_take (i := 2) (v := ?_) rfl (by kernel_rfl) (by kernel_rfl) (by kernel_rfl) (fun _ _ _ h => h) (Or.inl ⟨by rfl, ?_⟩) hS ?_
      rotate_left
      · intro w _; go_simp; try with_reducible rfl
      simp only [List.getElem_toArray, List.getElem_cons_zero, List.getElem_cons_succ, Act.put, List.setIfInBounds_toArray, List.set_cons_zero, List.set_cons_succ]
      refine wpAnyH_take (i := 3) (v := ?_) rfl (by kernel_rfl) (by kernel_rfl) (by kernel_rfl) (fun _ _ _ h => h) (Or.inl ⟨by rfl, ?_⟩) hS ?_
      rotate_left
      · intro w _; go_simp; try with_reducible rfl
      simp only [List.getElem_toArray, List.getElem_cons_zero, List.getElem_cons_succ, Act.put, List.setIfInBounds_toArray, List.set_cons_zero, List.set_cons_succ]
      have hb := below_drewN (Below.refl wr.heap.size wr) 1
      obtain ⟨w1, hw_⟩ : ∃ x, x = World.drew wr := ⟨_, rfl⟩
      rw [show World.drewN wr 1 = w1 from hw_.symm] at hb
      rw [← hw_]
      clear hw_ rt rd
      replace n1 := n1.below hb
      replace n2 := n2.below hb
      replace hB := hB.trans (hb.mono hB.size)
      clear hb
      refine wpAnyH_ready (rs := [4]) (by kernel_rfl) (by simp) ?_
      refine AllReadyH.cons rfl (fun K hK => ?_) AllReadyH.nil
      rw [if_pos (by rfl)]
      simp only [List.getElem_toArray, List.getElem_cons_zero, List.getElem_cons_succ]
      refine wp_lit 29 64 _ rfl Tryz.underlying29 info32e 38 rfl ?_
      intro w2 hl hb
      rw [show (38 : Int) = ((38 : Nat) : Int) by omega] at hl
      have n38 := ((NatRes.lit (c := 38) hl (Nat.zero_le _) (by omega) (by omega)).can (k := 1) ⟨by decide +kernel⟩ (by omega)).num
      obtain ⟨v10, hv10⟩ : ∃ v, v = Value.slice (some ⟨w1.heap.size, 0, none⟩) 1 1 := ⟨_, rfl⟩
      rw [← hv10] at n38 ⊢
      clear hv10 hl
      replace n1 := n1.below hb
      replace n2 := n2.below hb
      replace hB := hB.trans (hb.mono hB.size)
      clear hb
      refine hK.out _ _ trivial (fun hS => ?_)
      refine wpAnyH_ready (rs := [5]) (by kernel_rfl) (by simp) ?_
      refine AllReadyH.cons rfl (fun K hK => ?_) AllReadyH.nil
      rw [if_pos (by rfl)]
      simp only [List.getElem_toArray, List.getElem_cons_zero, List.getElem_cons_succ]
      go_simp
      refine (times_v n2 n38).mono ?_; rintro e_ w3 ⟨v11, rfl, hn, hb⟩
      have n3 := hn.num limT (by omega)
      dsimp only
      replace n1 := n1.below hb
      replace hB := hB.trans (hb.mono hB.size)
      clear hb hn n2 n38
      refine hK.out _ _ trivial (fun hS => ?_)
      refine wpAnyH_ready (rs := [6]) (by kernel_rfl) (by simp) ?_
      refine AllReadyH.cons rfl (fun K hK => ?_) AllReadyH.nil
      rw [if_pos (by rfl)]
      simp only [List.getElem_toArray, List.getElem_cons_zero, List.getElem_cons_succ]
      go_simp
      refine (plus7_v n1 n3).mono ?_; rintro e_ w4 ⟨v12, rfl, hn, hb⟩
      have c4 := hn.can limS (by omega)
      dsimp only
      replace hB := hB.trans (hb.mono hB.size)
      clear hb hn n1 n3
      refine hK.out _ _ trivial (fun hS => ?_)
      refine wpAnyH_ready (rs := [7]) (by kernel_rfl) (by simp) ?_
      refine AllReadyH.cons rfl (fun K hK => ?_) AllReadyH.nil
      rw [if_pos (by rfl)]
      simp only [List.getElem_toArray, List.getElem_cons_zero, List.getElem_cons_succ]
      go_simp
      refine hK.out _ _ trivial (fun hS => ?_)
      refine wpAnyH_done (by kernel_rfl) ?_ _
      clear hS
      go_wp2_with fail
      go_roundg (A + D * 38)
      case rel => exact ⟨c4, by rw [HK.out, HF2.out], hB⟩
      case measure => exact HF1.out
    · have hd0 : decide ((8 : Int) < (z.length : Int)) = false := decide_eq_false (by omega)
      have cv : CanAt wr (.slice a z.length c) gk := ⟨a, c, z, rfl, sz, cz, uz, HV.out, hlz⟩
      obtain ⟨zl, hzl⟩ : ∃ zl, zl = z.length := ⟨_, rfl⟩
      rw [← hzl] at hd0 cv ⊢
      clear sz cz uz hv HV hlz h8 hzl klim
      obtain ⟨k0, hk0⟩ : ∃ k, k = gk := ⟨_, rfl⟩
      rw [← hk0] at HK cv
      clear hk0
      go_wp2_with fail
      go_loopg [0] k0 (fun k s0 wx => CanAt wx s0 k ∧ r = k % eP ∧ Below w.heap.size w wx)
      case atStart => exact ⟨cv, HK.out, hB⟩
      case round =>
        clear cv HK hB
        obtain ⟨cv, hr, hB⟩ := hrel
        have HK := Lib.hid hr
        have klim := cv.num.lim
        clear hr
        have ro := cv.num
        go_wp2_with fail
        refine (rP_c _).mono ?_; rintro e_ w1 ⟨vp, rfl, cp, hb⟩
        replace cv := cv.below hb
        replace hB := hB.trans (hb.mono hB.size)
        clear hb ro
        obtain ⟨ci, hci⟩ : ∃ c, c = cmpI gk eP := ⟨_, rfl⟩
        have cc := cmp7_v cv.num cp.num
        rw [← hci] at cc
        by_cases hlt : gk < eP
        · obtain rfl : ci = -1 := by rw [hci]; exact cmpI_lt hlt
          have er : Hid (gk = r) := Lib.hid (by rw [HK.out, Nat.mod_eq_of_lt hlt])
          clear hci hlt
          go_wp2_with fail
          refine cc.mono ?_; rintro e_ w' ⟨rfl, rfl⟩
          have tc := trim_v cv.num
          rw [er.out] at tc
          have hbs := hB.size
          clear cc cv cp
          go_wp2_with fail
          refine tc.mono ?_; rintro e_ w2 ⟨v2, rfl, hr, hb⟩
          go_wp2_with fail
          go_ret
          exact ⟨_, rfl, hr.mono hbs, hB.trans (hb.mono hbs)⟩
        · have h0 : 0 ≤ ci := by
            rw [hci]
            rcases Nat.lt_or_ge eP gk with k | k
            · rw [cmpI_gt k]; omega
            · rw [cmpI_eq (by omega)]; omega
          have hdc : decide ((0 : Int) ≤ ci) = true := decide_eq_true h0
          have hge : Hid (eP ≤ gk) := Lib.hid (by omega)
          have hpos : 0 < eP := by decide +kernel
          have hlt2 : Hid (gk - eP < gk) := Lib.hid (by omega)
          have hmod : Hid ((gk - eP) % eP = gk % eP) := Lib.hid (Nat.mod_eq_sub_mod (by omega)).symm
          have mlim : Lim 17592186044415 (gk - eP) := klim.le (Nat.sub_le _ _)
          clear hci hlt h0 hpos
          go_wp2_with fail
          refine cc.mono ?_; rintro e_ w' ⟨rfl, rfl⟩
          clear cc cp
          go_wp2_with fail
          refine (rP_c _).mono ?_; rintro e_ w2 ⟨vp2, rfl, cp, hb⟩
          replace cv := cv.below hb
          replace hB := hB.trans (hb.mono hB.size)
          clear hb
          go_wp2_with fail
          refine (minus7_v cv.num cp.num hge.out).mono ?_; rintro e_ w3 ⟨v3, rfl, hn, hb⟩
          have c3 := hn.can mlim (by omega)
          replace hB := hB.trans (hb.mono hB.size)
          clear hb hn cv cp
          go_wp2_with fail
          go_roundg (gk - eP)
          case rel => exact ⟨c3, by rw [HK.out, hmod.out], hB⟩
          case measure => exact hlt2.out
end Go.Proofs.YtlolkighnnedfaaGreatDoor
/- signetref13: add, sub, mul, power, inverse modulo the prime, by contracts. (Printed by gen_edrb.py.) -/
set_option linter.unusedVariables false
set_option linter.unusedSimpArgs false
namespace Go.Proofs.YtlolkighnnedfaaGreatDoor
open Go.RowKit Go.Sg
theorem radd_f {v v' : Value} {x y : Fp} {w : World} (h : NumAt w v x.val) (h' : NumAt w v' y.val) : Calls Tryz.prog 66 #[v, v'] w (NatPost (x + y).val w) := by
  have pc := plus7_v h h'
  have e : Hid ((x.val + y.val) % eP = (x + y).val) := Lib.hid (fp_add x y).symm
  have lm := ((lim_fp x).add (lim_fp y))
  go_enter Tryz.func66, Tryz.ntmps66
  go_wp2_with fail
  refine pc.mono ?_; rintro e_ w1 ⟨v1, rfl, hn, hb⟩
  have lc := low_c (hn.can lm (by omega))
  rw [e.out] at lc
  have hbs := hb.size
  clear pc hn e lm
  go_wp2_with fail
  refine lc.mono ?_; rintro e_ w2 ⟨v2, rfl, hr, hb2⟩
  go_wp2_with fail
  go_ret
  exact ⟨_, rfl, hr.mono hbs, hb.trans (hb2.mono hbs)⟩
theorem rmul_f {v v' : Value} {x y : Fp} {w : World} (h : NumAt w v x.val) (h' : NumAt w v' y.val) : Calls Tryz.prog 63 #[v, v'] w (NatPost (x * y).val w) := by
  have pc := times_v h h'
  have e : Hid ((x.val * y.val) % eP = (x * y).val) := Lib.hid (fp_mul x y).symm
  have lm := ((lim_fp x).mul (lim_fp y))
  go_enter Tryz.func63, Tryz.ntmps63
  go_wp2_with fail
  refine pc.mono ?_; rintro e_ w1 ⟨v1, rfl, hn, hb⟩
  have lc := low_c (hn.can lm (by omega))
  rw [e.out] at lc
  have hbs := hb.size
  clear pc hn e lm
  go_wp2_with fail
  refine lc.mono ?_; rintro e_ w2 ⟨v2, rfl, hr, hb2⟩
  go_wp2_with fail
  go_ret
  exact ⟨_, rfl, hr.mono hbs, hb.trans (hb2.mono hbs)⟩
theorem rsub_f {v v' : Value} {x y : Fp} {w : World} (h : NumAt w v x.val) (h' : NumAt w v' y.val) : Calls Tryz.prog 64 #[v, v'] w (NatPost (x - y).val w) := by
  have e : Hid ((x.val + eP - y.val) % eP = (x - y).val) := Lib.hid (by rw [fp_sub]; congr 1; have := y.isLt; omega)
  have lm := (lim_fp x).add lim_eP
  have ge : Hid (y.val ≤ x.val + eP) := Lib.hid (by have := y.isLt; omega)
  go_enter Tryz.func64, Tryz.ntmps64
  go_wp2_with fail
  refine (rP_c w).mono ?_; rintro e_ w1 ⟨vp, rfl, cp, hb⟩
  have pc := plus7_v (h.below hb) cp.num
  have hB := hb
  have n' := h'.below hb
  clear hb cp
  go_wp2_with fail
  refine pc.mono ?_; rintro e_ w2 ⟨v1, rfl, hn, hb⟩
  have n1 := hn.num lm (by omega)
  replace hB := hB.trans (hb.mono hB.size)
  replace n' := n'.below hb
  clear pc hn hb
  have mc := minus7_v n1 n' ge.out
  have lm2 := lm.le (show x.val + eP - y.val ≤ x.val + eP by omega)
  go_wp2_with fail
  refine mc.mono ?_; rintro e_ w3 ⟨v3, rfl, hn, hb⟩
  have lc := low_c (hn.can lm2 (by omega))
  rw [e.out] at lc
  replace hB := hB.trans (hb.mono hB.size)
  have hbs := hB.size
  clear mc hn hb e lm lm2 n1 n' ge
  go_wp2_with fail
  refine lc.mono ?_; rintro e_ w4 ⟨v4, rfl, hr, hb2⟩
  go_wp2_with fail
  go_ret
  exact ⟨_, rfl, hr.mono hbs, hB.trans (hb2.mono hbs)⟩
theorem fpow_bit0 {x : Fp} {k j : Nat} (h : k / 2 ^ j % 2 ≠ 1) : fpow x (k / 2 ^ (j + 1)) * fpow x (k / 2 ^ (j + 1)) = fpow x (k / 2 ^ j) := by
  rw [← fpow_add, Nat.pow_succ, ← Nat.div_div_eq_div_mul]
  congr 1
  omega
theorem fpow_bit1 {x : Fp} {k j : Nat} (h : k / 2 ^ j % 2 = 1) : fpow x (k / 2 ^ (j + 1)) * fpow x (k / 2 ^ (j + 1)) * x = fpow x (k / 2 ^ j) := by
  rw [← fpow_add, ← fpow_succ, Nat.pow_succ, ← Nat.div_div_eq_div_mul]
  congr 1
  omega
def RpowRel (w : World) (x : Fp) (k B : Nat) (v t : Value) (wr : World) : Prop := ∃ i : Nat, i ≤ B ∧ t = .int .i64 ((i : Int) - 1) ∧ NatRes w.heap.size wr v (fpow x (k / 2 ^ i)).val ∧ Below w.heap.size w wr
set_option maxHeartbeats 4000000 in
set_option maxRecDepth 20000 in
theorem rpow_f {v v' : Value} {x : Fp} {k : Nat} {w : World} (h : NumAt w v x.val) (h' : NumAt w v' k) : Calls Tryz.prog 69 #[v, v'] w (NatPost (fpow x k).val w) := by
  obtain ⟨a, c, zs, rfl, s, u, hv, hl⟩ := h'
  have nk : NumAt w (.slice a zs.length c) k := ⟨a, c, zs, rfl, s, u, hv, hl⟩
  have k0 : Hid (k / 2 ^ (32 * zs.length) = 0) := Lib.hid (Nat.div_eq_of_lt (by rw [← hv, ← Rpow_two]; exact val_lt u))
  obtain ⟨le, hle⟩ : ∃ l, l = zs.length := ⟨_, rfl⟩
  rw [← hle] at nk k0 hl ⊢
  obtain ⟨B, hB0⟩ : ∃ B, B = 32 * le := ⟨_, rfl⟩
  have eB : Hid (32 * (le : Int) - 1 = (B : Int) - 1) := Lib.hid (by omega)
  have hBl : B ≤ 562949953421280 := by omega
  rw [← hB0] at k0
  clear s u hv hle hB0
  have hB := Below.refl w.heap.size w
  go_enter Tryz.func69, Tryz.ntmps69
  go_wp2_with (refine wpList_lit rfl 29 64 _ rfl Tryz.underlying29 info32e 1 rfl ?_)
  intro w1 hl1 hb
  have r7 := NatRes.lit (c := 1) hl1 (Nat.le_refl _) (by omega) (by omega)
  replace r7 : NatRes w.heap.size w1 _ (1 : Fp).val := r7
  obtain ⟨v7, hv7⟩ : ∃ v, v = Value.slice (some ⟨w.heap.size, 0, none⟩) 1 1 := ⟨_, rfl⟩
  rw [← hv7] at r7 ⊢
  replace hB := hB.trans (hb.mono hB.size)
  clear hv7 hl1 hb
  have st : RpowRel w x k B v7 (.int .i64 (32 * (le : Int) - 1)) w1 := ⟨B, Nat.le_refl _, by rw [eB.out], by rw [k0.out, fpow_zero]; exact r7, hB⟩
  clear r7 hB
  have wb : (32 : Int) * (le : Int) ≤ 562949953421280 := by omega
  go_wp2_with fail
  go_loopw [5, 6] (fun v t wr => RpowRel w x k B v t wr) (fun _ t _ => (intOf t + 1).toNat)
  case atStart => exact st
  case round =>
    clear st
    obtain ⟨i, hi, rfl, hr, hB⟩ := hrel
    cases i with
    | zero =>
      rw [Nat.pow_zero, Nat.div_one] at hr
      rw [show ((0 : Nat) : Int) - 1 = -1 from rfl]
      go_wp2_with fail
      go_ret
      exact ⟨_, rfl, hr, hB⟩
    | succ j =>
      rw [show ((j + 1 : Nat) : Int) - 1 = (j : Int) by omega]
      have hd0 : decide ((0 : Int) ≤ (j : Int)) = true := decide_eq_true (by omega)
      have hj0 : (0 : Int) ≤ (j : Int) := by omega
      have hw2 : IntKind.i64.wrap ((j : Int) - 1) = (j : Int) - 1 := by rw [IntKind.wrap_i64]; omega
      have mc := rmul_f hr.fp.num hr.fp.num
      clear hr
      go_wp2_with fail
      refine mc.mono ?_; rintro e_ w2 ⟨v2, rfl, hn, hb⟩
      have r2 := hn.mono hB.size
      have hB2 := hB.trans (hb.mono hB.size)
      clear mc hn hb hB
      have bc := bit7_v (nk.below hB2) j (by omega)
      by_cases hbit : k / 2 ^ j % 2 = 1
      · rw [show decide (k / 2 ^ j % 2 = 1) = true from decide_eq_true hbit] at bc
        have HE : Hid (fpow x (k / 2 ^ (j + 1)) * fpow x (k / 2 ^ (j + 1)) * x = fpow x (k / 2 ^ j)) := Lib.hid (fpow_bit1 hbit)
        clear hbit
        go_wp2_with fail
        refine bc.mono ?_; rintro e_ w' ⟨rfl, rfl⟩
        have m2 := rmul_f r2.fp.num (h.below hB2)
        clear bc r2
        go_wp2_with fail
        refine m2.mono ?_; rintro e_ w3 ⟨v3, rfl, hn, hb⟩
        have r3 := hn.mono hB2.size
        rw [HE.out] at r3
        replace hB2 := hB2.trans (hb.mono hB2.size)
        clear m2 hn hb
        go_wp2_with fail
        go_roundw
        case rel => exact ⟨j, by omega, rfl, r3, hB2⟩
        case measure => simp [intOf]
      · rw [show decide (k / 2 ^ j % 2 = 1) = false from decide_eq_false hbit] at bc
        have HE : Hid (fpow x (k / 2 ^ (j + 1)) * fpow x (k / 2 ^ (j + 1)) = fpow x (k / 2 ^ j)) := Lib.hid (fpow_bit0 hbit)
        rw [HE.out] at r2
        clear hbit HE
        go_wp2_with fail
        refine bc.mono ?_; rintro e_ w' ⟨rfl, rfl⟩
        clear bc
        go_wp2_with fail
        go_roundw
        case rel => exact ⟨j, by omega, rfl, r2, hB2⟩
        case measure => simp [intOf]
theorem lim_eP2 : Lim 8 (eP - 2) := lim_eP.le (by omega)
theorem ge_two : 2 ≤ eP := twoP
set_option maxRecDepth 20000 in
theorem rinv_f {v : Value} {x : Fp} {w : World} (h : NumAt w v x.val) : Calls Tryz.prog 65 #[v] w (NatPost (finv x).val w) := by
  have e : Hid (fpow x (eP - 2) = finv x) := Lib.hid rfl
  go_enter Tryz.func65, Tryz.ntmps65
  go_wp2_with fail
  refine (rP_c w).mono ?_; rintro e_ w1 ⟨vp, rfl, cp, hb⟩
  have hB := hb
  replace h := h.below hb
  clear hb
  go_wp2_with (refine wpList_lit rfl 29 64 _ rfl Tryz.underlying29 info32e 2 rfl ?_)
  intro w2 hl hb
  have n2 := ((NatRes.lit (c := 2) hl (Nat.zero_le _) (by omega) (by omega)).can (k := 1) ⟨by decide +kernel⟩ (by omega)).num
  obtain ⟨v2, hv2⟩ : ∃ v, v = Value.slice (some ⟨w1.heap.size, 0, none⟩) 1 1 := ⟨_, rfl⟩
  rw [← hv2] at n2 ⊢
  replace cp := cp.below hb
  replace h := h.below hb
  replace hB := hB.trans (hb.mono hB.size)
  clear hv2 hl hb
  have mc := minus7_v cp.num n2 ge_two
  go_wp2_with fail
  refine mc.mono ?_; rintro e_ w3 ⟨v3, rfl, hn, hb⟩
  have n3 := hn.num lim_eP2 (by omega)
  replace h := h.below hb
  replace hB := hB.trans (hb.mono hB.size)
  clear mc hn hb n2 cp
  have pc := rpow_f h n3
  rw [e.out] at pc
  have hbs := hB.size
  go_wp2_with fail
  refine pc.mono ?_; rintro e_ w4 ⟨v4, rfl, hr, hb⟩
  go_wp2_with fail
  go_ret
  exact ⟨_, rfl, hr.mono hbs, hB.trans (hb.mono hbs)⟩
end Go.Proofs.YtlolkighnnedfaaGreatDoor
/- signetref13: sum, point, spot, times, by contracts. (Printed by gen_edrc.py.) -/
set_option linter.unusedVariables false
set_option linter.unusedSimpArgs false
namespace Go.Proofs.YtlolkighnnedfaaGreatDoor
open Go.RowKit Go.Sg
theorem size_rspot : (Tryz.prog.info? 56).map (·.size) = some 4 := by kernel_rfl

set_option maxHeartbeats 4000000 in
set_option maxRecDepth 20000 in
theorem rsum_c {va vb : Value} {a b : Sp} {w : World} (ha : SpAt w va a) (hb_ : SpAt w vb b) :
    Calls Tryz.prog 33 #[va, vb] w (SpPost (a.plus b) w) := by
  obtain ⟨vax, vay, vaz, vat, rfl, cax, cay, caz, cat⟩ := ha
  obtain ⟨vbx, vby, vbz, vbt, rfl, cbx, cby, cbz, cbt⟩ := hb_
  go_enter Tryz.func33, Tryz.ntmps33
  have hB := Below.refl w.heap.size w
  go_wp2_with (refine wpList_box_agg rfl 56 _ rfl [vax, vay, vaz, vat] rfl ?_)
  intro w1 hk2 hb
  have hz_ := hB.size
  replace hB := hB.trans (hb.mono hB.size)
  clear hb
  obtain ⟨g2, hg_⟩ : ∃ g, g = w.heap.size := ⟨_, rfl⟩
  rw [← hg_] at hk2 ⊢
  have HG2 : Hid (w.heap.size ≤ g2) := Lib.hid (by rw [hg_]; exact hz_)
  clear hg_ hz_
  go_wp2_with (refine wpList_box_agg rfl 56 _ rfl [vbx, vby, vbz, vbt] rfl ?_)
  intro w2 hk3 hb
  have hz_ := hB.size
  have lt2_ := hk2.lt
  replace hB := hB.trans (hb.mono hB.size)
  replace hk2 := hk2.keep hb
  clear hb
  obtain ⟨g3, hg_⟩ : ∃ g, g = w1.heap.size := ⟨_, rfl⟩
  rw [← hg_] at hk3 ⊢
  have HG3 : Hid (w.heap.size ≤ g3) := Lib.hid (by rw [hg_]; exact hz_)
  have NE2_3 : Hid (g2 ≠ g3) := Lib.hid (by rw [hg_]; exact Nat.ne_of_lt lt2_)
  clear hg_ hz_ lt2_
  go_wp2_with (refine wpList_alloc_agg rfl 56 rfl [(.slice none 0 0), (.slice none 0 0), (.slice none 0 0), (.slice none 0 0)] 4 (by kernel_rfl) ?_)
  intro w3 hk4 hb
  have hz_ := hB.size
  have lt2_ := hk2.lt
  have lt3_ := hk3.lt
  replace hB := hB.trans (hb.mono hB.size)
  replace hk2 := hk2.keep hb
  replace hk3 := hk3.keep hb
  clear hb
  obtain ⟨g4, hg_⟩ : ∃ g, g = w2.heap.size := ⟨_, rfl⟩
  rw [← hg_] at hk4 ⊢
  have HG4 : Hid (w.heap.size ≤ g4) := Lib.hid (by rw [hg_]; exact hz_)
  have NE2_4 : Hid (g2 ≠ g4) := Lib.hid (by rw [hg_]; exact Nat.ne_of_lt lt2_)
  have NE3_4 : Hid (g3 ≠ g4) := Lib.hid (by rw [hg_]; exact Nat.ne_of_lt lt3_)
  clear hg_ hz_ lt2_ lt3_
  go_wp2_with fail
  refine wp_region_held_drew (S := fun W_ => Rw W_ g2 56 [vax, vay, vaz, vat] ∧ Rw W_ g3 56 [vbx, vby, vbz, vbt]) (by kernel_rfl) (⟨hk2, hk3⟩) (fun hS => ?_)
  have hb := below_drewN (Below.refl w3.heap.size w3) 1
  obtain ⟨w4, hw_⟩ : ∃ x, x = World.drew w3 := ⟨_, rfl⟩
  rw [show World.drewN w3 1 = w4 from hw_.symm] at hb
  rw [← hw_] at hS ⊢
  clear hw_
  replace hB := hB.trans (hb.mono hB.size)
  replace hk2 := hk2.keep hb
  replace hk3 := hk3.keep hb
  replace hk4 := hk4.keep hb
  clear hb
  refine wpAnyH_take (i := 0) (v := ?_) rfl (by kernel_rfl) (by kernel_rfl) (by kernel_rfl) (fun _ _ _ h => h) (Or.inl ⟨by rfl, ?_⟩) hS ?_
  rotate_left
  · intro w _; go_simp; try with_reducible rfl
  simp only [List.getElem_toArray, List.getElem_cons_zero, List.getElem_cons_succ, Act.put, List.setIfInBounds_toArray, List.set_cons_zero, List.set_cons_succ]
  refine wpAnyH_take (i := 1) (v := ?_) rfl (by kernel_rfl) (by kernel_rfl) (by kernel_rfl) (fun _ _ _ h => h) (Or.inl ⟨by rfl, ?_⟩) hS ?_
  rotate_left
  · intro W_ hW_; have c_ := Rw.cell (hW_.1) 1 rfl; go_simp; try with_reducible rfl
  simp only [List.getElem_toArray, List.getElem_cons_zero, List.getElem_cons_succ, Act.put, List.setIfInBounds_toArray, List.set_cons_zero, List.set_cons_succ]
  refine wpAnyH_take (i := 2) (v := ?_) rfl (by kernel_rfl) (by kernel_rfl) (by kernel_rfl) (fun _ _ _ h => h) (Or.inl ⟨by rfl, ?_⟩) hS ?_
  rotate_left
  · intro w _; go_simp; try with_reducible rfl
  simp only [List.getElem_toArray, List.getElem_cons_zero, List.getElem_cons_succ, Act.put, List.setIfInBounds_toArray, List.set_cons_zero, List.set_cons_succ]
  refine wpAnyH_take (i := 3) (v := ?_) rfl (by kernel_rfl) (by kernel_rfl) (by kernel_rfl) (fun _ _ _ h => h) (Or.inl ⟨by rfl, ?_⟩) hS ?_
  rotate_left
  · intro W_ hW_; have c_ := Rw.cell (hW_.1) 0 rfl; go_simp; try with_reducible rfl
  simp only [List.getElem_toArray, List.getElem_cons_zero, List.getElem_cons_succ, Act.put, List.setIfInBounds_toArray, List.set_cons_zero, List.set_cons_succ]
  refine wpAnyH_take (i := 5) (v := ?_) rfl (by kernel_rfl) (by kernel_rfl) (by kernel_rfl) (fun _ _ _ h => h) (Or.inl ⟨by rfl, ?_⟩) hS ?_
  rotate_left
  · intro w _; go_simp; try with_reducible rfl
  simp only [List.getElem_toArray, List.getElem_cons_zero, List.getElem_cons_succ, Act.put, List.setIfInBounds_toArray, List.set_cons_zero, List.set_cons_succ]
  refine wpAnyH_take (i := 6) (v := ?_) rfl (by kernel_rfl) (by kernel_rfl) (by kernel_rfl) (fun _ _ _ h => h) (Or.inl ⟨by rfl, ?_⟩) hS ?_
  rotate_left
  · intro W_ hW_; have c_ := Rw.cell (hW_.2) 1 rfl; go_simp; try with_reducible rfl
  simp only [List.getElem_toArray, List.getElem_cons_zero, List.getElem_cons_succ, Act.put, List.setIfInBounds_toArray, List.set_cons_zero, List.set_cons_succ]
  refine wpAnyH_take (i := 7) (v := ?_) rfl (by kernel_rfl) (by kernel_rfl) (by kernel_rfl) (fun _ _ _ h => h) (Or.inl ⟨by rfl, ?_⟩) hS ?_
  rotate_left
  · intro w _; go_simp; try with_reducible rfl
  simp only [List.getElem_toArray, List.getElem_cons_zero, List.getElem_cons_succ, Act.put, List.setIfInBounds_toArray, List.set_cons_zero, List.set_cons_succ]
  refine wpAnyH_take (i := 8) (v := ?_) rfl (by kernel_rfl) (by kernel_rfl) (by kernel_rfl) (fun _ _ _ h => h) (Or.inl ⟨by rfl, ?_⟩) hS ?_
  rotate_left
  · intro W_ hW_; have c_ := Rw.cell (hW_.2) 0 rfl; go_simp; try with_reducible rfl
  simp only [List.getElem_toArray, List.getElem_cons_zero, List.getElem_cons_succ, Act.put, List.setIfInBounds_toArray, List.set_cons_zero, List.set_cons_succ]
  refine wpAnyH_ready (rs := [4]) (by kernel_rfl) (by simp) ?_
  refine AllReadyH.cons rfl (fun K hK => ?_) AllReadyH.nil
  rw [if_pos (by rfl)]
  simp only [List.getElem_toArray, List.getElem_cons_zero, List.getElem_cons_succ]
  go_simp
  refine (rsub_f (cay.below hB).num (cax.below hB).num ).mono ?_; rintro e_ w5 ⟨v17, rfl, hn, hb⟩
  dsimp only
  have c17 := hn.fp
  replace hB := hB.trans (hb.mono hB.size)
  replace hk2 := hk2.keep hb
  replace hk3 := hk3.keep hb
  replace hk4 := hk4.keep hb
  clear hb hn
  refine hK.out _ _ ⟨hk2, hk3⟩ (fun hS => ?_)
  refine wpAnyH_ready (rs := [9]) (by kernel_rfl) (by simp) ?_
  refine AllReadyH.cons rfl (fun K hK => ?_) AllReadyH.nil
  rw [if_pos (by rfl)]
  simp only [List.getElem_toArray, List.getElem_cons_zero, List.getElem_cons_succ]
  go_simp
  refine (rsub_f (cby.below hB).num (cbx.below hB).num ).mono ?_; rintro e_ w6 ⟨v22, rfl, hn, hb⟩
  dsimp only
  have c22 := hn.fp
  replace hB := hB.trans (hb.mono hB.size)
  replace hk2 := hk2.keep hb
  replace hk3 := hk3.keep hb
  replace hk4 := hk4.keep hb
  replace c17 := c17.below hb
  clear hb hn
  refine hK.out _ _ ⟨hk2, hk3⟩ (fun hS => ?_)
  refine wpAnyH_ready (rs := [10]) (by kernel_rfl) (by simp) ?_
  refine AllReadyH.cons rfl (fun K hK => ?_) AllReadyH.nil
  rw [if_pos (by rfl)]
  simp only [List.getElem_toArray, List.getElem_cons_zero, List.getElem_cons_succ]
  go_simp
  refine (rmul_f c17.num c22.num ).mono ?_; rintro e_ w7 ⟨v23, rfl, hn, hb⟩
  dsimp only
  have c23 := hn.fp
  replace hB := hB.trans (hb.mono hB.size)
  replace hk2 := hk2.keep hb
  replace hk3 := hk3.keep hb
  replace hk4 := hk4.keep hb
  replace c17 := c17.below hb
  replace c22 := c22.below hb
  clear hb hn
  refine hK.out _ _ ⟨hk2, hk3⟩ (fun hS => ?_)
  refine wpAnyH_ready (rs := [11]) (by kernel_rfl) (by simp) ?_
  refine AllReadyH.cons rfl (fun K hK => ?_) AllReadyH.nil
  rw [if_pos (by rfl)]
  simp only [List.getElem_toArray, List.getElem_cons_zero, List.getElem_cons_succ]
  go_simp
  refine hK.out _ _ hS (fun hS => ?_)
  refine wpAnyH_done (by kernel_rfl) ?_ _
  clear hS
  go_wp2_with fail
  refine wp_region_held_drew (S := fun W_ => Rw W_ g2 56 [vax, vay, vaz, vat] ∧ Rw W_ g3 56 [vbx, vby, vbz, vbt]) (by kernel_rfl) (⟨hk2, hk3⟩) (fun hS => ?_)
  have hb := below_drewN (Below.refl w7.heap.size w7) 1
  obtain ⟨w8, hw_⟩ : ∃ x, x = World.drew w7 := ⟨_, rfl⟩
  rw [show World.drewN w7 1 = w8 from hw_.symm] at hb
  rw [← hw_] at hS ⊢
  clear hw_
  replace hB := hB.trans (hb.mono hB.size)
  replace hk2 := hk2.keep hb
  replace hk3 := hk3.keep hb
  replace hk4 := hk4.keep hb
  replace c17 := c17.below hb
  replace c22 := c22.below hb
  replace c23 := c23.below hb
  clear hb
  refine wpAnyH_take (i := 0) (v := ?_) rfl (by kernel_rfl) (by kernel_rfl) (by kernel_rfl) (fun _ _ _ h => h) (Or.inl ⟨by rfl, ?_⟩) hS ?_
  rotate_left
  · intro w _; go_simp; try with_reducible rfl
  simp only [List.getElem_toArray, List.getElem_cons_zero, List.getElem_cons_succ, Act.put, List.setIfInBounds_toArray, List.set_cons_zero, List.set_cons_succ]
  refine wpAnyH_take (i := 1) (v := ?_) rfl (by kernel_rfl) (by kernel_rfl) (by kernel_rfl) (fun _ _ _ h => h) (Or.inl ⟨by rfl, ?_⟩) hS ?_
  rotate_left
  · intro W_ hW_; have c_ := Rw.cell (hW_.1) 1 rfl; go_simp; try with_reducible rfl
  simp only [List.getElem_toArray, List.getElem_cons_zero, List.getElem_cons_succ, Act.put, List.setIfInBounds_toArray, List.set_cons_zero, List.set_cons_succ]
  refine wpAnyH_take (i := 2) (v := ?_) rfl (by kernel_rfl) (by kernel_rfl) (by kernel_rfl) (fun _ _ _ h => h) (Or.inl ⟨by rfl, ?_⟩) hS ?_
  rotate_left
  · intro w _; go_simp; try with_reducible rfl
  simp only [List.getElem_toArray, List.getElem_cons_zero, List.getElem_cons_succ, Act.put, List.setIfInBounds_toArray, List.set_cons_zero, List.set_cons_succ]
  refine wpAnyH_take (i := 3) (v := ?_) rfl (by kernel_rfl) (by kernel_rfl) (by kernel_rfl) (fun _ _ _ h => h) (Or.inl ⟨by rfl, ?_⟩) hS ?_
  rotate_left
  · intro W_ hW_; have c_ := Rw.cell (hW_.1) 0 rfl; go_simp; try with_reducible rfl
  simp only [List.getElem_toArray, List.getElem_cons_zero, List.getElem_cons_succ, Act.put, List.setIfInBounds_toArray, List.set_cons_zero, List.set_cons_succ]
  refine wpAnyH_take (i := 5) (v := ?_) rfl (by kernel_rfl) (by kernel_rfl) (by kernel_rfl) (fun _ _ _ h => h) (Or.inl ⟨by rfl, ?_⟩) hS ?_
  rotate_left
  · intro w _; go_simp; try with_reducible rfl
  simp only [List.getElem_toArray, List.getElem_cons_zero, List.getElem_cons_succ, Act.put, List.setIfInBounds_toArray, List.set_cons_zero, List.set_cons_succ]
  refine wpAnyH_take (i := 6) (v := ?_) rfl (by kernel_rfl) (by kernel_rfl) (by kernel_rfl) (fun _ _ _ h => h) (Or.inl ⟨by rfl, ?_⟩) hS ?_
  rotate_left
  · intro W_ hW_; have c_ := Rw.cell (hW_.2) 1 rfl; go_simp; try with_reducible rfl
  simp only [List.getElem_toArray, List.getElem_cons_zero, List.getElem_cons_succ, Act.put, List.setIfInBounds_toArray, List.set_cons_zero, List.set_cons_succ]
  refine wpAnyH_take (i := 7) (v := ?_) rfl (by kernel_rfl) (by kernel_rfl) (by kernel_rfl) (fun _ _ _ h => h) (Or.inl ⟨by rfl, ?_⟩) hS ?_
  rotate_left
  · intro w _; go_simp; try with_reducible rfl
  simp only [List.getElem_toArray, List.getElem_cons_zero, List.getElem_cons_succ, Act.put, List.setIfInBounds_toArray, List.set_cons_zero, List.set_cons_succ]
  refine wpAnyH_take (i := 8) (v := ?_) rfl (by kernel_rfl) (by kernel_rfl) (by kernel_rfl) (fun _ _ _ h => h) (Or.inl ⟨by rfl, ?_⟩) hS ?_
  rotate_left
  · intro W_ hW_; have c_ := Rw.cell (hW_.2) 0 rfl; go_simp; try with_reducible rfl
  simp only [List.getElem_toArray, List.getElem_cons_zero, List.getElem_cons_succ, Act.put, List.setIfInBounds_toArray, List.set_cons_zero, List.set_cons_succ]
  refine wpAnyH_ready (rs := [4]) (by kernel_rfl) (by simp) ?_
  refine AllReadyH.cons rfl (fun K hK => ?_) AllReadyH.nil
  rw [if_pos (by rfl)]
  simp only [List.getElem_toArray, List.getElem_cons_zero, List.getElem_cons_succ]
  go_simp
  refine (radd_f (cay.below hB).num (cax.below hB).num ).mono ?_; rintro e_ w9 ⟨v28, rfl, hn, hb⟩
  dsimp only
  have c28 := hn.fp
  replace hB := hB.trans (hb.mono hB.size)
  replace hk2 := hk2.keep hb
  replace hk3 := hk3.keep hb
  replace hk4 := hk4.keep hb
  replace c17 := c17.below hb
  replace c22 := c22.below hb
  replace c23 := c23.below hb
  clear hb hn
  refine hK.out _ _ ⟨hk2, hk3⟩ (fun hS => ?_)
  refine wpAnyH_ready (rs := [9]) (by kernel_rfl) (by simp) ?_
  refine AllReadyH.cons rfl (fun K hK => ?_) AllReadyH.nil
  rw [if_pos (by rfl)]
  simp only [List.getElem_toArray, List.getElem_cons_zero, List.getElem_cons_succ]
  go_simp
  refine (radd_f (cby.below hB).num (cbx.below hB).num ).mono ?_; rintro e_ w10 ⟨v33, rfl, hn, hb⟩
  dsimp only
  have c33 := hn.fp
  replace hB := hB.trans (hb.mono hB.size)
  replace hk2 := hk2.keep hb
  replace hk3 := hk3.keep hb
  replace hk4 := hk4.keep hb
  replace c17 := c17.below hb
  replace c22 := c22.below hb
  replace c23 := c23.below hb
  replace c28 := c28.below hb
  clear hb hn
  refine hK.out _ _ ⟨hk2, hk3⟩ (fun hS => ?_)
  refine wpAnyH_ready (rs := [10]) (by kernel_rfl) (by simp) ?_
  refine AllReadyH.cons rfl (fun K hK => ?_) AllReadyH.nil
  rw [if_pos (by rfl)]
  simp only [List.getElem_toArray, List.getElem_cons_zero, List.getElem_cons_succ]
  go_simp
  refine (rmul_f c28.num c33.num ).mono ?_; rintro e_ w11 ⟨v34, rfl, hn, hb⟩
  dsimp only
  have c34 := hn.fp
  replace hB := hB.trans (hb.mono hB.size)
  replace hk2 := hk2.keep hb
  replace hk3 := hk3.keep hb
  replace hk4 := hk4.keep hb
  replace c17 := c17.below hb
  replace c22 := c22.below hb
  replace c23 := c23.below hb
  replace c28 := c28.below hb
  replace c33 := c33.below hb
  clear hb hn
  refine hK.out _ _ ⟨hk2, hk3⟩ (fun hS => ?_)
  refine wpAnyH_ready (rs := [11]) (by kernel_rfl) (by simp) ?_
  refine AllReadyH.cons rfl (fun K hK => ?_) AllReadyH.nil
  rw [if_pos (by rfl)]
  simp only [List.getElem_toArray, List.getElem_cons_zero, List.getElem_cons_succ]
  go_simp
  refine hK.out _ _ hS (fun hS => ?_)
  refine wpAnyH_done (by kernel_rfl) ?_ _
  clear hS
  have q0_ := hk2.cell 3 rfl
  have q1_ := hk3.cell 3 rfl
  go_wp2_with fail
  refine (rmul_f (cat.below hB).num (cbt.below hB).num ).mono ?_; rintro e_ w12 ⟨v39, rfl, hn, hb⟩
  clear q0_ q1_
  have c39 := hn.fp
  replace hB := hB.trans (hb.mono hB.size)
  replace hk2 := hk2.keep hb
  replace hk3 := hk3.keep hb
  replace hk4 := hk4.keep hb
  replace c17 := c17.below hb
  replace c22 := c22.below hb
  replace c23 := c23.below hb
  replace c28 := c28.below hb
  replace c33 := c33.below hb
  replace c34 := c34.below hb
  clear hb hn
  go_wp2_with fail
  refine (rcurve_c w12).mono ?_; rintro e_ w13 ⟨v40, rfl, c40, hb⟩
  replace hB := hB.trans (hb.mono hB.size)
  replace hk2 := hk2.keep hb
  replace hk3 := hk3.keep hb
  replace hk4 := hk4.keep hb
  replace c17 := c17.below hb
  replace c22 := c22.below hb
  replace c23 := c23.below hb
  replace c28 := c28.below hb
  replace c33 := c33.below hb
  replace c34 := c34.below hb
  replace c39 := c39.below hb
  clear hb
  go_wp2_with fail
  refine (rcurve_c w13).mono ?_; rintro e_ w14 ⟨v41, rfl, c41, hb⟩
  replace hB := hB.trans (hb.mono hB.size)
  replace hk2 := hk2.keep hb
  replace hk3 := hk3.keep hb
  replace hk4 := hk4.keep hb
  replace c17 := c17.below hb
  replace c22 := c22.below hb
  replace c23 := c23.below hb
  replace c28 := c28.below hb
  replace c33 := c33.below hb
  replace c34 := c34.below hb
  replace c39 := c39.below hb
  replace c40 := c40.below hb
  clear hb
  go_wp2_with fail
  refine (radd_f c40.num c41.num ).mono ?_; rintro e_ w15 ⟨v42, rfl, hn, hb⟩
  have c42 := hn.fp
  replace hB := hB.trans (hb.mono hB.size)
  replace hk2 := hk2.keep hb
  replace hk3 := hk3.keep hb
  replace hk4 := hk4.keep hb
  replace c17 := c17.below hb
  replace c22 := c22.below hb
  replace c23 := c23.below hb
  replace c28 := c28.below hb
  replace c33 := c33.below hb
  replace c34 := c34.below hb
  replace c39 := c39.below hb
  replace c40 := c40.below hb
  replace c41 := c41.below hb
  clear hb hn
  go_wp2_with fail
  refine (rmul_f c39.num c42.num ).mono ?_; rintro e_ w16 ⟨v43, rfl, hn, hb⟩
  have c43 := hn.fp
  replace hB := hB.trans (hb.mono hB.size)
  replace hk2 := hk2.keep hb
  replace hk3 := hk3.keep hb
  replace hk4 := hk4.keep hb
  replace c17 := c17.below hb
  replace c22 := c22.below hb
  replace c23 := c23.below hb
  replace c28 := c28.below hb
  replace c33 := c33.below hb
  replace c34 := c34.below hb
  replace c39 := c39.below hb
  replace c40 := c40.below hb
  replace c41 := c41.below hb
  replace c42 := c42.below hb
  clear hb hn
  go_wp2_with fail
  refine wp_region_held_drew (S := fun W_ => Rw W_ g2 56 [vax, vay, vaz, vat] ∧ Rw W_ g3 56 [vbx, vby, vbz, vbt]) (by kernel_rfl) (⟨hk2, hk3⟩) (fun hS => ?_)
  have hb := below_drewN (Below.refl w16.heap.size w16) 1
  obtain ⟨w17, hw_⟩ : ∃ x, x = World.drew w16 := ⟨_, rfl⟩
  rw [show World.drewN w16 1 = w17 from hw_.symm] at hb
  rw [← hw_] at hS ⊢
  clear hw_
  replace hB := hB.trans (hb.mono hB.size)
  replace hk2 := hk2.keep hb
  replace hk3 := hk3.keep hb
  replace hk4 := hk4.keep hb
  replace c17 := c17.below hb
  replace c22 := c22.below hb
  replace c23 := c23.below hb
  replace c28 := c28.below hb
  replace c33 := c33.below hb
  replace c34 := c34.below hb
  replace c39 := c39.below hb
  replace c40 := c40.below hb
  replace c41 := c41.below hb
  replace c42 := c42.below hb
  replace c43 := c43.below hb
  clear hb
  refine wpAnyH_take (i := 0) (v := ?_) rfl (by kernel_rfl) (by kernel_rfl) (by kernel_rfl) (fun _ _ _ h => h) (Or.inl ⟨by rfl, ?_⟩) hS ?_
  rotate_left
  · intro w _; go_simp; try with_reducible rfl
  simp only [List.getElem_toArray, List.getElem_cons_zero, List.getElem_cons_succ, Act.put, List.setIfInBounds_toArray, List.set_cons_zero, List.set_cons_succ]
  refine wpAnyH_take (i := 1) (v := ?_) rfl (by kernel_rfl) (by kernel_rfl) (by kernel_rfl) (fun _ _ _ h => h) (Or.inl ⟨by rfl, ?_⟩) hS ?_
  rotate_left
  · intro W_ hW_; have c_ := Rw.cell (hW_.1) 2 rfl; go_simp; try with_reducible rfl
  simp only [List.getElem_toArray, List.getElem_cons_zero, List.getElem_cons_succ, Act.put, List.setIfInBounds_toArray, List.set_cons_zero, List.set_cons_succ]
  refine wpAnyH_take (i := 2) (v := ?_) rfl (by kernel_rfl) (by kernel_rfl) (by kernel_rfl) (fun _ _ _ h => h) (Or.inl ⟨by rfl, ?_⟩) hS ?_
  rotate_left
  · intro w _; go_simp; try with_reducible rfl
  simp only [List.getElem_toArray, List.getElem_cons_zero, List.getElem_cons_succ, Act.put, List.setIfInBounds_toArray, List.set_cons_zero, List.set_cons_succ]
  refine wpAnyH_take (i := 3) (v := ?_) rfl (by kernel_rfl) (by kernel_rfl) (by kernel_rfl) (fun _ _ _ h => h) (Or.inl ⟨by rfl, ?_⟩) hS ?_
  rotate_left
  · intro W_ hW_; have c_ := Rw.cell (hW_.2) 2 rfl; go_simp; try with_reducible rfl
  simp only [List.getElem_toArray, List.getElem_cons_zero, List.getElem_cons_succ, Act.put, List.setIfInBounds_toArray, List.set_cons_zero, List.set_cons_succ]
  refine wpAnyH_take (i := 4) (v := ?_) rfl (by kernel_rfl) (by kernel_rfl) (by kernel_rfl) (fun _ _ _ h => h) (Or.inl ⟨by rfl, ?_⟩) hS ?_
  rotate_left
  · intro w _; go_simp; try with_reducible rfl
  simp only [List.getElem_toArray, List.getElem_cons_zero, List.getElem_cons_succ, Act.put, List.setIfInBounds_toArray, List.set_cons_zero, List.set_cons_succ]
  refine wpAnyH_take (i := 5) (v := ?_) rfl (by kernel_rfl) (by kernel_rfl) (by kernel_rfl) (fun _ _ _ h => h) (Or.inl ⟨by rfl, ?_⟩) hS ?_
  rotate_left
  · intro W_ hW_; have c_ := Rw.cell (hW_.2) 2 rfl; go_simp; try with_reducible rfl
  simp only [List.getElem_toArray, List.getElem_cons_zero, List.getElem_cons_succ, Act.put, List.setIfInBounds_toArray, List.set_cons_zero, List.set_cons_succ]
  refine wpAnyH_ready (rs := [6]) (by kernel_rfl) (by simp) ?_
  refine AllReadyH.cons rfl (fun K hK => ?_) AllReadyH.nil
  rw [if_pos (by rfl)]
  simp only [List.getElem_toArray, List.getElem_cons_zero, List.getElem_cons_succ]
  go_simp
  refine (radd_f (cbz.below hB).num (cbz.below hB).num ).mono ?_; rintro e_ w18 ⟨v50, rfl, hn, hb⟩
  dsimp only
  have c50 := hn.fp
  replace hB := hB.trans (hb.mono hB.size)
  replace hk2 := hk2.keep hb
  replace hk3 := hk3.keep hb
  replace hk4 := hk4.keep hb
  replace c17 := c17.below hb
  replace c22 := c22.below hb
  replace c23 := c23.below hb
  replace c28 := c28.below hb
  replace c33 := c33.below hb
  replace c34 := c34.below hb
  replace c39 := c39.below hb
  replace c40 := c40.below hb
  replace c41 := c41.below hb
  replace c42 := c42.below hb
  replace c43 := c43.below hb
  clear hb hn
  refine hK.out _ _ ⟨hk2, hk3⟩ (fun hS => ?_)
  refine wpAnyH_ready (rs := [7]) (by kernel_rfl) (by simp) ?_
  refine AllReadyH.cons rfl (fun K hK => ?_) AllReadyH.nil
  rw [if_pos (by rfl)]
  simp only [List.getElem_toArray, List.getElem_cons_zero, List.getElem_cons_succ]
  go_simp
  refine (rmul_f (caz.below hB).num c50.num ).mono ?_; rintro e_ w19 ⟨v51, rfl, hn, hb⟩
  dsimp only
  have c51 := hn.fp
  replace hB := hB.trans (hb.mono hB.size)
  replace hk2 := hk2.keep hb
  replace hk3 := hk3.keep hb
  replace hk4 := hk4.keep hb
  replace c17 := c17.below hb
  replace c22 := c22.below hb
  replace c23 := c23.below hb
  replace c28 := c28.below hb
  replace c33 := c33.below hb
  replace c34 := c34.below hb
  replace c39 := c39.below hb
  replace c40 := c40.below hb
  replace c41 := c41.below hb
  replace c42 := c42.below hb
  replace c43 := c43.below hb
  replace c50 := c50.below hb
  clear hb hn
  refine hK.out _ _ ⟨hk2, hk3⟩ (fun hS => ?_)
  refine wpAnyH_ready (rs := [8]) (by kernel_rfl) (by simp) ?_
  refine AllReadyH.cons rfl (fun K hK => ?_) AllReadyH.nil
  rw [if_pos (by rfl)]
  simp only [List.getElem_toArray, List.getElem_cons_zero, List.getElem_cons_succ]
  go_simp
  refine hK.out _ _ hS (fun hS => ?_)
  refine wpAnyH_done (by kernel_rfl) ?_ _
  clear hS
  go_wp2_with fail
  refine (rsub_f c34.num c23.num ).mono ?_; rintro e_ w20 ⟨v54, rfl, hn, hb⟩
  have c54 := hn.fp
  replace hB := hB.trans (hb.mono hB.size)
  replace hk2 := hk2.keep hb
  replace hk3 := hk3.keep hb
  replace hk4 := hk4.keep hb
  replace c17 := c17.below hb
  replace c22 := c22.below hb
  replace c23 := c23.below hb
  replace c28 := c28.below hb
  replace c33 := c33.below hb
  replace c34 := c34.below hb
  replace c39 := c39.below hb
  replace c40 := c40.below hb
  replace c41 := c41.below hb
  replace c42 := c42.below hb
  replace c43 := c43.below hb
  replace c50 := c50.below hb
  replace c51 := c51.below hb
  clear hb hn
  go_wp2_with fail
  refine (rsub_f c51.num c43.num ).mono ?_; rintro e_ w21 ⟨v57, rfl, hn, hb⟩
  have c57 := hn.fp
  replace hB := hB.trans (hb.mono hB.size)
  replace hk2 := hk2.keep hb
  replace hk3 := hk3.keep hb
  replace hk4 := hk4.keep hb
  replace c17 := c17.below hb
  replace c22 := c22.below hb
  replace c23 := c23.below hb
  replace c28 := c28.below hb
  replace c33 := c33.below hb
  replace c34 := c34.below hb
  replace c39 := c39.below hb
  replace c40 := c40.below hb
  replace c41 := c41.below hb
  replace c42 := c42.below hb
  replace c43 := c43.below hb
  replace c50 := c50.below hb
  replace c51 := c51.below hb
  replace c54 := c54.below hb
  clear hb hn
  go_wp2_with fail
  refine (radd_f c51.num c43.num ).mono ?_; rintro e_ w22 ⟨v60, rfl, hn, hb⟩
  have c60 := hn.fp
  replace hB := hB.trans (hb.mono hB.size)
  replace hk2 := hk2.keep hb
  replace hk3 := hk3.keep hb
  replace hk4 := hk4.keep hb
  replace c17 := c17.below hb
  replace c22 := c22.below hb
  replace c23 := c23.below hb
  replace c28 := c28.below hb
  replace c33 := c33.below hb
  replace c34 := c34.below hb
  replace c39 := c39.below hb
  replace c40 := c40.below hb
  replace c41 := c41.below hb
  replace c42 := c42.below hb
  replace c43 := c43.below hb
  replace c50 := c50.below hb
  replace c51 := c51.below hb
  replace c54 := c54.below hb
  replace c57 := c57.below hb
  clear hb hn
  go_wp2_with fail
  refine (radd_f c34.num c23.num ).mono ?_; rintro e_ w23 ⟨v63, rfl, hn, hb⟩
  have c63 := hn.fp
  replace hB := hB.trans (hb.mono hB.size)
  replace hk2 := hk2.keep hb
  replace hk3 := hk3.keep hb
  replace hk4 := hk4.keep hb
  replace c17 := c17.below hb
  replace c22 := c22.below hb
  replace c23 := c23.below hb
  replace c28 := c28.below hb
  replace c33 := c33.below hb
  replace c34 := c34.below hb
  replace c39 := c39.below hb
  replace c40 := c40.below hb
  replace c41 := c41.below hb
  replace c42 := c42.below hb
  replace c43 := c43.below hb
  replace c50 := c50.below hb
  replace c51 := c51.below hb
  replace c54 := c54.below hb
  replace c57 := c57.below hb
  replace c60 := c60.below hb
  clear hb hn
  go_wp2_with fail
  refine (rmul_f c54.num c57.num ).mono ?_; rintro e_ w24 ⟨v66, rfl, hn, hb⟩
  have c66 := hn.fp
  have r66 := hn.mono (Nat.succ_le_of_lt hk4.lt)
  replace hB := hB.trans (hb.mono hB.size)
  replace hk2 := hk2.keep hb
  replace hk3 := hk3.keep hb
  replace hk4 := hk4.keep hb
  replace c17 := c17.below hb
  replace c22 := c22.below hb
  replace c23 := c23.below hb
  replace c28 := c28.below hb
  replace c33 := c33.below hb
  replace c34 := c34.below hb
  replace c39 := c39.below hb
  replace c40 := c40.below hb
  replace c41 := c41.below hb
  replace c42 := c42.below hb
  replace c43 := c43.below hb
  replace c50 := c50.below hb
  replace c51 := c51.below hb
  replace c54 := c54.below hb
  replace c57 := c57.below hb
  replace c60 := c60.below hb
  replace c63 := c63.below hb
  clear hb hn
  go_wp2_with fail
  refine (rmul_f c60.num c63.num ).mono ?_; rintro e_ w25 ⟨v69, rfl, hn, hb⟩
  have c69 := hn.fp
  have r69 := hn.mono (Nat.succ_le_of_lt hk4.lt)
  replace hB := hB.trans (hb.mono hB.size)
  replace hk2 := hk2.keep hb
  replace hk3 := hk3.keep hb
  replace hk4 := hk4.keep hb
  replace c17 := c17.below hb
  replace c22 := c22.below hb
  replace c23 := c23.below hb
  replace c28 := c28.below hb
  replace c33 := c33.below hb
  replace c34 := c34.below hb
  replace c39 := c39.below hb
  replace c40 := c40.below hb
  replace c41 := c41.below hb
  replace c42 := c42.below hb
  replace c43 := c43.below hb
  replace c50 := c50.below hb
  replace c51 := c51.below hb
  replace c54 := c54.below hb
  replace c57 := c57.below hb
  replace c60 := c60.below hb
  replace c63 := c63.below hb
  replace c66 := c66.below hb
  replace r66 := r66.below hb
  clear hb hn
  go_wp2_with fail
  refine (rmul_f c57.num c60.num ).mono ?_; rintro e_ w26 ⟨v72, rfl, hn, hb⟩
  have c72 := hn.fp
  have r72 := hn.mono (Nat.succ_le_of_lt hk4.lt)
  replace hB := hB.trans (hb.mono hB.size)
  replace hk2 := hk2.keep hb
  replace hk3 := hk3.keep hb
  replace hk4 := hk4.keep hb
  replace c17 := c17.below hb
  replace c22 := c22.below hb
  replace c23 := c23.below hb
  replace c28 := c28.below hb
  replace c33 := c33.below hb
  replace c34 := c34.below hb
  replace c39 := c39.below hb
  replace c40 := c40.below hb
  replace c41 := c41.below hb
  replace c42 := c42.below hb
  replace c43 := c43.below hb
  replace c50 := c50.below hb
  replace c51 := c51.below hb
  replace c54 := c54.below hb
  replace c57 := c57.below hb
  replace c60 := c60.below hb
  replace c63 := c63.below hb
  replace c66 := c66.below hb
  replace r66 := r66.below hb
  replace c69 := c69.below hb
  replace r69 := r69.below hb
  clear hb hn
  go_wp2_with fail
  refine (rmul_f c54.num c63.num ).mono ?_; rintro e_ w27 ⟨v75, rfl, hn, hb⟩
  have c75 := hn.fp
  have r75 := hn.mono (Nat.succ_le_of_lt hk4.lt)
  replace hB := hB.trans (hb.mono hB.size)
  replace hk2 := hk2.keep hb
  replace hk3 := hk3.keep hb
  replace hk4 := hk4.keep hb
  replace c17 := c17.below hb
  replace c22 := c22.below hb
  replace c23 := c23.below hb
  replace c28 := c28.below hb
  replace c33 := c33.below hb
  replace c34 := c34.below hb
  replace c39 := c39.below hb
  replace c40 := c40.below hb
  replace c41 := c41.below hb
  replace c42 := c42.below hb
  replace c43 := c43.below hb
  replace c50 := c50.below hb
  replace c51 := c51.below hb
  replace c54 := c54.below hb
  replace c57 := c57.below hb
  replace c60 := c60.below hb
  replace c63 := c63.below hb
  replace c66 := c66.below hb
  replace r66 := r66.below hb
  replace c69 := c69.below hb
  replace r69 := r69.below hb
  replace c72 := c72.below hb
  replace r72 := r72.below hb
  clear hb hn
  obtain ⟨a66_, n66_, p66_, rfl⟩ := c66.sliced
  obtain ⟨a69_, n69_, p69_, rfl⟩ := c69.sliced
  obtain ⟨a72_, n72_, p72_, rfl⟩ := c72.sliced
  obtain ⟨a75_, n75_, p75_, rfl⟩ := c75.sliced
  go_wp2_with (refine wpList_store_agg rfl 56 _ _ rfl g4 56 [(.slice none 0 0), (.slice none 0 0), (.slice none 0 0), (.slice none 0 0)] [(.slice a66_ n66_ p66_), (.slice a69_ n69_ p69_), (.slice a72_ n72_ p72_), (.slice a75_ n75_ p75_)] rfl rfl hk4 size_rspot (by intro v_ hv_; simp only [List.mem_cons, List.not_mem_nil, or_false] at hv_; rcases hv_ with rfl | rfl | rfl | rfl <;> first | rfl | exact c66.one_cell | exact c69.one_cell | exact c72.one_cell | exact c75.one_cell) rfl ?_)
  intro w28 hn hg
  replace hB := hB.grown hg hB.size (by intro k_ hk_; cases hk_; exact HG4.out)
  replace hk2 := hk2.grown hg (fun e_ => NE2_4.out (Option.some.inj e_))
  replace hk3 := hk3.grown hg (fun e_ => NE3_4.out (Option.some.inj e_))
  replace hk4 := hn
  clear c17
  clear c22
  clear c23
  clear c28
  clear c33
  clear c34
  clear c39
  clear c40
  clear c41
  clear c42
  clear c43
  clear c50
  clear c51
  clear c54
  clear c57
  clear c60
  clear c63
  clear c66
  replace r66 := r66.past hg
  clear c69
  replace r69 := r69.past hg
  clear c72
  replace r72 := r72.past hg
  clear c75
  replace r75 := r75.past hg
  clear hn hg
  go_wp2_with fail
  refine bodyPost_ret (results_agg rfl rfl hk4 Tryz.underlying56 rfl size_rspot) rfl ?_
  exact ⟨_, rfl, ⟨_, _, _, _, rfl, r66.mono (Nat.le_succ_of_le HG4.out), r69.mono (Nat.le_succ_of_le HG4.out), r72.mono (Nat.le_succ_of_le HG4.out), r75.mono (Nat.le_succ_of_le HG4.out)⟩, hB⟩
set_option maxHeartbeats 4000000 in
set_option maxRecDepth 20000 in
theorem rpoint_c {va : Value} {a : Sp} {w : World} (ha : SpAt w va a) :
    Calls Tryz.prog 32 #[va] w (PtPost a.pt w) := by
  obtain ⟨vax, vay, vaz, vat, rfl, cax, cay, caz, cat⟩ := ha
  go_enter Tryz.func32, Tryz.ntmps32
  have hB := Below.refl w.heap.size w
  go_wp2_with (refine wpList_box_agg rfl 56 _ rfl [vax, vay, vaz, vat] rfl ?_)
  intro w1 hk1 hb
  have hz_ := hB.size
  replace hB := hB.trans (hb.mono hB.size)
  clear hb
  obtain ⟨g1, hg_⟩ : ∃ g, g = w.heap.size := ⟨_, rfl⟩
  rw [← hg_] at hk1 ⊢
  have HG1 : Hid (w.heap.size ≤ g1) := Lib.hid (by rw [hg_]; exact hz_)
  clear hg_ hz_
  go_wp2_with (refine wpList_alloc_agg rfl 31 rfl [(.slice none 0 0), (.slice none 0 0), (.bool false)] 3 (by kernel_rfl) ?_)
  intro w2 hk2 hb
  have hz_ := hB.size
  have lt1_ := hk1.lt
  replace hB := hB.trans (hb.mono hB.size)
  replace hk1 := hk1.keep hb
  clear hb
  obtain ⟨g2, hg_⟩ : ∃ g, g = w1.heap.size := ⟨_, rfl⟩
  rw [← hg_] at hk2 ⊢
  have HG2 : Hid (w.heap.size ≤ g2) := Lib.hid (by rw [hg_]; exact hz_)
  have NE1_2 : Hid (g1 ≠ g2) := Lib.hid (by rw [hg_]; exact Nat.ne_of_lt lt1_)
  clear hg_ hz_ lt1_
  have q0_ := hk1.cell 2 rfl
  go_wp2_with fail
  refine (rinv_f (caz.below hB).num  ).mono ?_; rintro e_ w3 ⟨v6, rfl, hn, hb⟩
  clear q0_
  have c6 := hn.fp
  replace hB := hB.trans (hb.mono hB.size)
  replace hk1 := hk1.keep hb
  replace hk2 := hk2.keep hb
  clear hb hn
  go_wp2_with fail
  refine wp_region_held_drew (S := fun W_ => Rw W_ g1 56 [vax, vay, vaz, vat]) (by kernel_rfl) (hk1) (fun hS => ?_)
  have hb := below_drewN (Below.refl w3.heap.size w3) 1
  obtain ⟨w4, hw_⟩ : ∃ x, x = World.drew w3 := ⟨_, rfl⟩
  rw [show World.drewN w3 1 = w4 from hw_.symm] at hb
  rw [← hw_] at hS ⊢
  clear hw_
  replace hB := hB.trans (hb.mono hB.size)
  replace hk1 := hk1.keep hb
  replace hk2 := hk2.keep hb
  replace c6 := c6.below hb
  clear hb
  refine wpAnyH_take (i := 0) (v := ?_) rfl (by kernel_rfl) (by kernel_rfl) (by kernel_rfl) (fun _ _ _ h => h) (Or.inl ⟨by rfl, ?_⟩) hS ?_
  rotate_left
  · intro w _; go_simp; try with_reducible rfl
  simp only [List.getElem_toArray, List.getElem_cons_zero, List.getElem_cons_succ, Act.put, List.setIfInBounds_toArray, List.set_cons_zero, List.set_cons_succ]
  refine wpAnyH_take (i := 1) (v := ?_) rfl (by kernel_rfl) (by kernel_rfl) (by kernel_rfl) (fun _ _ _ h => h) (Or.inl ⟨by rfl, ?_⟩) hS ?_
  rotate_left
  · intro W_ hW_; have c_ := Rw.cell hW_ 0 rfl; go_simp; try with_reducible rfl
  simp only [List.getElem_toArray, List.getElem_cons_zero, List.getElem_cons_succ, Act.put, List.setIfInBounds_toArray, List.set_cons_zero, List.set_cons_succ]
  refine wpAnyH_take (i := 2) (v := ?_) rfl (by kernel_rfl) (by kernel_rfl) (by kernel_rfl) (fun _ _ _ h => h) (Or.inl ⟨by rfl, ?_⟩) hS ?_
  rotate_left
  · intro w _; go_simp; try with_reducible rfl
  simp only [List.getElem_toArray, List.getElem_cons_zero, List.getElem_cons_succ, Act.put, List.setIfInBounds_toArray, List.set_cons_zero, List.set_cons_succ]
  refine wpAnyH_take (i := 4) (v := ?_) rfl (by kernel_rfl) (by kernel_rfl) (by kernel_rfl) (fun _ _ _ h => h) (Or.inl ⟨by rfl, ?_⟩) hS ?_
  rotate_left
  · intro w _; go_simp; try with_reducible rfl
  simp only [List.getElem_toArray, List.getElem_cons_zero, List.getElem_cons_succ, Act.put, List.setIfInBounds_toArray, List.set_cons_zero, List.set_cons_succ]
  refine wpAnyH_take (i := 5) (v := ?_) rfl (by kernel_rfl) (by kernel_rfl) (by kernel_rfl) (fun _ _ _ h => h) (Or.inl ⟨by rfl, ?_⟩) hS ?_
  rotate_left
  · intro W_ hW_; have c_ := Rw.cell hW_ 1 rfl; go_simp; try with_reducible rfl
  simp only [List.getElem_toArray, List.getElem_cons_zero, List.getElem_cons_succ, Act.put, List.setIfInBounds_toArray, List.set_cons_zero, List.set_cons_succ]
  refine wpAnyH_take (i := 6) (v := ?_) rfl (by kernel_rfl) (by kernel_rfl) (by kernel_rfl) (fun _ _ _ h => h) (Or.inl ⟨by rfl, ?_⟩) hS ?_
  rotate_left
  · intro w _; go_simp; try with_reducible rfl
  simp only [List.getElem_toArray, List.getElem_cons_zero, List.getElem_cons_succ, Act.put, List.setIfInBounds_toArray, List.set_cons_zero, List.set_cons_succ]
  refine wpAnyH_ready (rs := [3]) (by kernel_rfl) (by simp) ?_
  refine AllReadyH.cons rfl (fun K hK => ?_) AllReadyH.nil
  rw [if_pos (by rfl)]
  simp only [List.getElem_toArray, List.getElem_cons_zero, List.getElem_cons_succ]
  go_simp
  refine (rmul_f (cax.below hB).num c6.num ).mono ?_; rintro e_ w5 ⟨v10, rfl, hn, hb⟩
  dsimp only
  have c10 := hn.fp
  have r10 := hn.mono (Nat.succ_le_of_lt hk2.lt)
  replace hB := hB.trans (hb.mono hB.size)
  replace hk1 := hk1.keep hb
  replace hk2 := hk2.keep hb
  replace c6 := c6.below hb
  clear hb hn
  refine hK.out _ _ hk1 (fun hS => ?_)
  refine wpAnyH_ready (rs := [7]) (by kernel_rfl) (by simp) ?_
  refine AllReadyH.cons rfl (fun K hK => ?_) AllReadyH.nil
  rw [if_pos (by rfl)]
  simp only [List.getElem_toArray, List.getElem_cons_zero, List.getElem_cons_succ]
  go_simp
  refine (rmul_f (cay.below hB).num c6.num ).mono ?_; rintro e_ w6 ⟨v14, rfl, hn, hb⟩
  dsimp only
  have c14 := hn.fp
  have r14 := hn.mono (Nat.succ_le_of_lt hk2.lt)
  have ap10_14 := NatRes.apart r10 hn
  replace hB := hB.trans (hb.mono hB.size)
  replace hk1 := hk1.keep hb
  replace hk2 := hk2.keep hb
  replace c6 := c6.below hb
  replace c10 := c10.below hb
  replace r10 := r10.below hb
  clear hb hn
  refine hK.out _ _ hk1 (fun hS => ?_)
  obtain ⟨a10_, n10_, p10_, rfl⟩ := c10.sliced
  obtain ⟨a14_, n14_, p14_, rfl⟩ := c14.sliced
  refine wpAnyH_ready (rs := [8]) (by kernel_rfl) (by simp) ?_
  refine AllReadyH.cons rfl (fun K hK => ?_) AllReadyH.nil
  rw [if_pos (by rfl)]
  simp only [List.getElem_toArray, List.getElem_cons_zero, List.getElem_cons_succ]
  go_simp
  refine hK.out _ _ hS (fun hS => ?_)
  refine wpAnyH_ready (rs := [9]) (by kernel_rfl) (by simp) ?_
  refine AllReadyH.cons rfl (fun K hK => ?_) AllReadyH.nil
  rw [if_pos (by rfl)]
  simp only [List.getElem_toArray, List.getElem_cons_zero, List.getElem_cons_succ]
  refine wp_store_agg 31 _ _ rfl g2 31 [(.slice none 0 0), (.slice none 0 0), (.bool false)] [(.slice a10_ n10_ p10_), (.slice a14_ n14_ p14_), (.bool false)] rfl rfl hk2 size_pt (by intro v_ hv_; simp only [List.mem_cons, List.not_mem_nil, or_false] at hv_; rcases hv_ with rfl | rfl | rfl <;> first | rfl | exact c10.one_cell | exact c14.one_cell) rfl ?_
  intro w7 hn hg
  replace hB := hB.grown hg hB.size (by intro k_ hk_; cases hk_; exact HG2.out)
  replace hk1 := hk1.grown hg (fun e_ => NE1_2.out (Option.some.inj e_))
  replace hk2 := hn
  clear c6
  clear c10
  replace r10 := r10.past hg
  clear c14
  replace r14 := r14.past hg
  clear hn hg
  refine hK.out _ _ hk1 (fun hS => ?_)
  refine wpAnyH_done (by kernel_rfl) ?_ _
  clear hS
  go_wp2_with fail
  refine bodyPost_ret (results_agg rfl rfl hk2 Tryz.underlying31 rfl size_pt) rfl ?_
  exact ⟨_, rfl, ⟨_, _, rfl, r10.mono (Nat.le_succ_of_le HG2.out), r14.mono (Nat.le_succ_of_le HG2.out), ap10_14⟩, hB⟩
set_option maxHeartbeats 4000000 in
set_option maxRecDepth 20000 in
theorem rspot_c {va : Value} {P : Pt} {w : World} (ha : PtIn w va P.1.val P.2.val false) :
    Calls Tryz.prog 35 #[va] w (SpPost (Sp.of P) w) := by
  obtain ⟨vx, vy, rfl, nx, ny⟩ := ha
  go_enter Tryz.func35, Tryz.ntmps35
  have hB := Below.refl w.heap.size w
  go_wp2_with (refine wpList_box_agg rfl 31 _ rfl [vx, vy, .bool false] rfl ?_)
  intro w1 hk1 hb
  have hz_ := hB.size
  replace hB := hB.trans (hb.mono hB.size)
  clear hb
  obtain ⟨g1, hg_⟩ : ∃ g, g = w.heap.size := ⟨_, rfl⟩
  rw [← hg_] at hk1 ⊢
  have HG1 : Hid (w.heap.size ≤ g1) := Lib.hid (by rw [hg_]; exact hz_)
  clear hg_ hz_
  go_wp2_with (refine wpList_alloc_agg rfl 56 rfl [(.slice none 0 0), (.slice none 0 0), (.slice none 0 0), (.slice none 0 0)] 4 (by kernel_rfl) ?_)
  intro w2 hk2 hb
  have hz_ := hB.size
  have lt1_ := hk1.lt
  replace hB := hB.trans (hb.mono hB.size)
  replace hk1 := hk1.keep hb
  clear hb
  obtain ⟨g2, hg_⟩ : ∃ g, g = w1.heap.size := ⟨_, rfl⟩
  rw [← hg_] at hk2 ⊢
  have HG2 : Hid (w.heap.size ≤ g2) := Lib.hid (by rw [hg_]; exact hz_)
  have NE1_2 : Hid (g1 ≠ g2) := Lib.hid (by rw [hg_]; exact Nat.ne_of_lt lt1_)
  clear hg_ hz_ lt1_
  have q0_ := hk1.cell 0 rfl
  go_wp2_with fail
  refine (trim_v (nx.below hB)).mono ?_; rintro e_ w3 ⟨v7, rfl, hn, hb⟩
  clear q0_
  have c7 := hn.fp
  have r7 := hn.mono (Nat.succ_le_of_lt hk2.lt)
  replace hB := hB.trans (hb.mono hB.size)
  replace hk1 := hk1.keep hb
  replace hk2 := hk2.keep hb
  clear hb hn
  have q0_ := hk1.cell 1 rfl
  go_wp2_with fail
  refine (trim_v (ny.below hB)).mono ?_; rintro e_ w4 ⟨v10, rfl, hn, hb⟩
  clear q0_
  have c10 := hn.fp
  have r10 := hn.mono (Nat.succ_le_of_lt hk2.lt)
  replace hB := hB.trans (hb.mono hB.size)
  replace hk1 := hk1.keep hb
  replace hk2 := hk2.keep hb
  replace c7 := c7.below hb
  replace r7 := r7.below hb
  clear hb hn
  go_wp2_with (refine wpList_lit rfl 29 64 _ rfl Tryz.underlying29 info32e 1 rfl ?_)
  intro w5 hl hb
  have r13 := NatRes.lit (c := 1) hl (Nat.succ_le_of_lt hk2.lt) (by omega) (by omega)
  have c13 := (NatRes.lit (c := 1) hl (Nat.zero_le _) (by omega) (by omega)).can (k := 1) (by exact ⟨by decide +kernel⟩) (by omega)
  replace c13 : CanAt w5 _ (1 : Fp).val := c13
  replace r13 : NatRes _ w5 _ (1 : Fp).val := r13
  obtain ⟨v13, hv13⟩ : ∃ v, v = Value.slice (some ⟨w4.heap.size, 0, none⟩) 1 1 := ⟨_, rfl⟩
  rw [← hv13] at c13 r13 ⊢
  clear hv13 hl
  replace hB := hB.trans (hb.mono hB.size)
  replace hk1 := hk1.keep hb
  replace hk2 := hk2.keep hb
  replace c7 := c7.below hb
  replace r7 := r7.below hb
  replace c10 := c10.below hb
  replace r10 := r10.below hb
  clear hb
  go_wp2_with fail
  refine (rmul_f c7.num c10.num ).mono ?_; rintro e_ w6 ⟨v16, rfl, hn, hb⟩
  have c16 := hn.fp
  have r16 := hn.mono (Nat.succ_le_of_lt hk2.lt)
  replace hB := hB.trans (hb.mono hB.size)
  replace hk1 := hk1.keep hb
  replace hk2 := hk2.keep hb
  replace c7 := c7.below hb
  replace r7 := r7.below hb
  replace c10 := c10.below hb
  replace r10 := r10.below hb
  replace c13 := c13.below hb
  replace r13 := r13.below hb
  clear hb hn
  obtain ⟨a7_, n7_, p7_, rfl⟩ := c7.sliced
  obtain ⟨a10_, n10_, p10_, rfl⟩ := c10.sliced
  obtain ⟨a13_, n13_, p13_, rfl⟩ := c13.sliced
  obtain ⟨a16_, n16_, p16_, rfl⟩ := c16.sliced
  go_wp2_with (refine wpList_store_agg rfl 56 _ _ rfl g2 56 [(.slice none 0 0), (.slice none 0 0), (.slice none 0 0), (.slice none 0 0)] [(.slice a7_ n7_ p7_), (.slice a10_ n10_ p10_), (.slice a13_ n13_ p13_), (.slice a16_ n16_ p16_)] rfl rfl hk2 size_rspot (by intro v_ hv_; simp only [List.mem_cons, List.not_mem_nil, or_false] at hv_; rcases hv_ with rfl | rfl | rfl | rfl <;> first | rfl | exact c7.one_cell | exact c10.one_cell | exact c13.one_cell | exact c16.one_cell) rfl ?_)
  intro w7 hn hg
  replace hB := hB.grown hg hB.size (by intro k_ hk_; cases hk_; exact HG2.out)
  replace hk1 := hk1.grown hg (fun e_ => NE1_2.out (Option.some.inj e_))
  replace hk2 := hn
  clear c7
  replace r7 := r7.past hg
  clear c10
  replace r10 := r10.past hg
  clear c13
  replace r13 := r13.past hg
  clear c16
  replace r16 := r16.past hg
  clear hn hg
  go_wp2_with fail
  refine bodyPost_ret (results_agg rfl rfl hk2 Tryz.underlying56 rfl size_rspot) rfl ?_
  exact ⟨_, rfl, ⟨_, _, _, _, rfl, r7.mono (Nat.le_succ_of_le HG2.out), r10.mono (Nat.le_succ_of_le HG2.out), r13.mono (Nat.le_succ_of_le HG2.out), r16.mono (Nat.le_succ_of_le HG2.out)⟩, hB⟩
theorem rpoint_is {va : Value} {a : Sp} {Q : Pt} {w : World} (ha : SpAt w va a) (hi : a.is Q) : Calls Tryz.prog 32 #[va] w (PtPost Q w) := by
  have h := rpoint_c ha
  rwa [Sp.pt_is hi] at h
end Go.Proofs.YtlolkighnnedfaaGreatDoor
/- signetref13: times by its contract. (Printed by gen_edrd.py.) -/
set_option linter.unusedVariables false
set_option linter.unusedSimpArgs false
namespace Go.Proofs.YtlolkighnnedfaaGreatDoor
open Go.RowKit Go.Sg

set_option maxHeartbeats 4000000 in
set_option maxRecDepth 20000 in
theorem rtimes_c {va vk : Value} {a : Sp} {P : Pt} {k : Nat} {w : World} (ha : SpAt w va a) (hi : a.is P) (hc : OnC P) (nk : NumAt w vk k) :
    Calls Tryz.prog 34 #[vk, va] w (TimesPost (eMul k P) w) := by
  obtain ⟨vax, vay, vaz, vat, rfl, cax, cay, caz, cat⟩ := ha
  have HI := Lib.hid hi
  have HC := Lib.hid hc
  obtain ⟨ak, ck, zs, rfl, sk, uk, hvk, hlk⟩ := nk
  have nk : NumAt w (.slice ak zs.length ck) k := ⟨ak, ck, zs, rfl, sk, uk, hvk, hlk⟩
  have k0 : Hid (k / 2 ^ (32 * zs.length) = 0) := Lib.hid (Nat.div_eq_of_lt (by rw [← hvk, ← Rpow_two]; exact val_lt uk))
  obtain ⟨le, hle⟩ : ∃ l, l = zs.length := ⟨_, rfl⟩
  rw [← hle] at nk k0 hlk ⊢
  obtain ⟨B, hBB⟩ : ∃ B, B = 32 * le := ⟨_, rfl⟩
  have hBl : B ≤ 562949953421280 := by omega
  have eB : Hid (32 * (le : Int) - 1 = (B : Int) - 1) := Lib.hid (by omega)
  have wb : (32 : Int) * (le : Int) ≤ 562949953421280 := by omega
  rw [← hBB] at k0
  clear hi hc hBB sk uk hvk hle hlk
  go_enter Tryz.func34, Tryz.ntmps34
  have hB := Below.refl w.heap.size w
  go_wp2_with (refine wpList_box_agg rfl 56 _ rfl [vax, vay, vaz, vat] rfl ?_)
  intro w1 hk3 hb
  have hz_ := hB.size
  replace hB := hB.trans (hb.mono hB.size)
  clear hb
  obtain ⟨g3, hg_⟩ : ∃ g, g = w.heap.size := ⟨_, rfl⟩
  rw [← hg_] at hk3 ⊢
  have HG3 : Hid (w.heap.size ≤ g3) := Lib.hid (by rw [hg_]; exact hz_)
  clear hg_ hz_
  go_wp2_with (refine wpList_alloc_agg rfl 56 rfl [(.slice none 0 0), (.slice none 0 0), (.slice none 0 0), (.slice none 0 0)] 4 (by kernel_rfl) ?_)
  intro w2 hk4 hb
  have hz_ := hB.size
  have lt3_ := hk3.lt
  replace hB := hB.trans (hb.mono hB.size)
  replace hk3 := hk3.keep hb
  clear hb
  obtain ⟨g4, hg_⟩ : ∃ g, g = w1.heap.size := ⟨_, rfl⟩
  rw [← hg_] at hk4 ⊢
  have HG4 : Hid (w.heap.size ≤ g4) := Lib.hid (by rw [hg_]; exact hz_)
  have NE3_4 : Hid (g3 ≠ g4) := Lib.hid (by rw [hg_]; exact Nat.ne_of_lt lt3_)
  clear hg_ hz_ lt3_
  go_wp2_with (refine wpList_lit rfl 29 64 _ rfl Tryz.underlying29 info32e 1 rfl ?_)
  intro w3 hl hb
  have r7 := NatRes.lit (c := 1) hl (Nat.succ_le_of_lt hk4.lt) (by omega) (by omega)
  have c7 := (NatRes.lit (c := 1) hl (Nat.zero_le _) (by omega) (by omega)).can (k := 1) (by exact ⟨by decide +kernel⟩) (by omega)
  replace c7 : CanAt w3 _ (1 : Fp).val := c7
  replace r7 : NatRes _ w3 _ (1 : Fp).val := r7
  obtain ⟨v7, hv7⟩ : ∃ v, v = Value.slice (some ⟨w2.heap.size, 0, none⟩) 1 1 := ⟨_, rfl⟩
  rw [← hv7] at c7 r7 ⊢
  clear hv7 hl
  replace hB := hB.trans (hb.mono hB.size)
  replace hk3 := hk3.keep hb
  replace hk4 := hk4.keep hb
  clear hb
  go_wp2_with (refine wpList_lit rfl 29 64 _ rfl Tryz.underlying29 info32e 1 rfl ?_)
  intro w4 hl hb
  have r8 := NatRes.lit (c := 1) hl (Nat.succ_le_of_lt hk4.lt) (by omega) (by omega)
  have c8 := (NatRes.lit (c := 1) hl (Nat.zero_le _) (by omega) (by omega)).can (k := 1) (by exact ⟨by decide +kernel⟩) (by omega)
  replace c8 : CanAt w4 _ (1 : Fp).val := c8
  replace r8 : NatRes _ w4 _ (1 : Fp).val := r8
  obtain ⟨v8, hv8⟩ : ∃ v, v = Value.slice (some ⟨w3.heap.size, 0, none⟩) 1 1 := ⟨_, rfl⟩
  rw [← hv8] at c8 r8 ⊢
  clear hv8 hl
  replace hB := hB.trans (hb.mono hB.size)
  replace hk3 := hk3.keep hb
  replace hk4 := hk4.keep hb
  replace c7 := c7.below hb
  replace r7 := r7.below hb
  clear hb
  obtain ⟨a7_, n7_, p7_, rfl⟩ := c7.sliced
  obtain ⟨a8_, n8_, p8_, rfl⟩ := c8.sliced
  clear c7
  clear c8
  have hl4_ := hk4.lt
  have hB5 := Below.refl w4.heap.size w4
  go_wp2_with (refine wpList_alloc_agg rfl 56 rfl [(.slice none 0 0), (.slice none 0 0), (.slice none 0 0), (.slice none 0 0)] 4 (by kernel_rfl) ?_)
  intro w5 hk5 hb
  have hz_ := hB.size
  have lt3_ := hk3.lt
  have lt4_ := hk4.lt
  replace hB := hB.trans (hb.mono hB.size)
  replace hk3 := hk3.keep hb
  replace hk4 := hk4.keep hb
  replace hB5 := hB5.trans (hb.mono hB5.size)
  clear hb
  obtain ⟨g5, hg_⟩ : ∃ g, g = w4.heap.size := ⟨_, rfl⟩
  rw [← hg_] at hk5 ⊢
  have HG5 : Hid (w.heap.size ≤ g5) := Lib.hid (by rw [hg_]; exact hz_)
  have NE3_5 : Hid (g3 ≠ g5) := Lib.hid (by rw [hg_]; exact Nat.ne_of_lt lt3_)
  have NE4_5 : Hid (g4 ≠ g5) := Lib.hid (by rw [hg_]; exact Nat.ne_of_lt lt4_)
  have HH5 : Hid (w4.heap.size ≤ g5 ∧ g4 ≤ g5 ∧ w.heap.size ≤ g4) := Lib.hid ⟨by rw [hg_]; exact Nat.le_refl _, by rw [hg_]; exact Nat.le_of_lt hl4_, HG4.out⟩
  clear hg_ hz_ lt3_ lt4_
  clear hl4_
  go_wp2_with (refine wpList_store_agg rfl 56 _ _ rfl g5 56 [(.slice none 0 0), (.slice none 0 0), (.slice none 0 0), (.slice none 0 0)] [(.slice none 0 0), (.slice a7_ n7_ p7_), (.slice a8_ n8_ p8_), (.slice none 0 0)] rfl rfl hk5 size_rspot (by intro v_ hv_; simp only [List.mem_cons, List.not_mem_nil, or_false] at hv_; rcases hv_ with rfl | rfl | rfl | rfl <;> first | rfl | exact (r7.below hB5).fp.one_cell | exact (r8.below hB5).fp.one_cell) rfl ?_)
  intro w6 hn hg
  replace hB := hB.grown hg hB.size (by intro k_ hk_; cases hk_; exact HG5.out)
  replace hk3 := hk3.grown hg (fun e_ => NE3_5.out (Option.some.inj e_))
  replace hk4 := hk4.grown hg (fun e_ => NE4_5.out (Option.some.inj e_))
  replace hB5 := hB5.grown hg hB5.size (by intro k_ hk_; cases hk_; exact HH5.out.1)
  replace hk5 := hn
  clear hn hg
  replace r7 := r7.below hB5
  replace r8 := r8.below hB5
  clear hB5
  have st : TimesRel w P k B g3 g4 g5 [vax, vay, vaz, vat] 56 [.slice none 0 0, .slice none 0 0, .slice none 0 0, .slice none 0 0] (.int .i64 (32 * (le : Int) - 1)) w6 := ⟨B, Sp.none, _, _, _, _, Nat.le_refl _, by rw [eB.out], hk5, NatRes.nil0 _ _, r7, r8, NatRes.nil0 _ _, by rw [k0.out]; exact Sp.none_is, hk3, hk4, hB⟩
  clear hk3 hk4 hk5 r7 r8 hB
  go_wp2_with fail
  go_loopw [6] (fun t wr => TimesRel w P k B g3 g4 g5 [vax, vay, vaz, vat] 56 [.slice none 0 0, .slice none 0 0, .slice none 0 0, .slice none 0 0] t wr) (fun t _ => (intOf t + 1).toNat)
  case atStart => exact st
  case round =>
    clear st
    obtain ⟨i, s, x, y, z, tt, hi, rfl, hk5, rx, ry, rz, rt, his, hk3, hk4, hB⟩ := hrel
    have HIS := Lib.hid his
    clear his
    cases i with
    | zero =>
      rw [Nat.pow_zero, Nat.div_one] at HIS
      rw [show ((0 : Nat) : Int) - 1 = -1 from rfl]
      obtain ⟨ax_, nx_, px_, rfl⟩ := rx.fp.sliced
      obtain ⟨ay_, ny_, py_, rfl⟩ := ry.fp.sliced
      obtain ⟨az_, nz_, pz_, rfl⟩ := rz.fp.sliced
      obtain ⟨at_, nt_, pt_, rfl⟩ := rt.fp.sliced
      go_wp2_with (first | refine wpList_load_agg rfl 56 _ rfl g5 rfl _ [(.slice ax_ nx_ px_), (.slice ay_ ny_ py_), (.slice az_ nz_ pz_), (.slice at_ nt_ pt_)] _ hk5 Tryz.underlying56 rfl size_rspot ?_ | refine wpList_store_agg rfl 56 _ _ rfl g4 56 [(.slice none 0 0), (.slice none 0 0), (.slice none 0 0), (.slice none 0 0)] [(.slice ax_ nx_ px_), (.slice ay_ ny_ py_), (.slice az_ nz_ pz_), (.slice at_ nt_ pt_)] rfl rfl hk4 size_rspot (by intro v_ hv_; simp only [List.mem_cons, List.not_mem_nil, or_false] at hv_; rcases hv_ with rfl | rfl | rfl | rfl <;> first | rfl | exact rx.fp.one_cell | exact ry.fp.one_cell | exact rz.fp.one_cell | exact rt.fp.one_cell) rfl ?_)
      intro w7 hn hg
      replace hk5 := hk5.grown hg (fun e_ => NE4_5.out (Option.some.inj e_).symm)
      replace hk3 := hk3.grown hg (fun e_ => NE3_4.out (Option.some.inj e_))
      replace hk4 := hn
      replace rx := rx.past hg
      replace ry := ry.past hg
      replace rz := rz.past hg
      replace rt := rt.past hg
      replace hB := hB.grown hg hB.size (by intro k_ hk_; cases hk_; exact HG4.out)
      clear hn hg
      go_wp2_with fail
      refine bodyPost_ret (results_agg rfl rfl hk4 Tryz.underlying56 rfl size_rspot) rfl ?_
      exact ⟨_, s, rfl, ⟨_, _, _, _, rfl, rx.mono (Nat.le_succ_of_le HG4.out), ry.mono (Nat.le_succ_of_le HG4.out), rz.mono (Nat.le_succ_of_le HG4.out), rt.mono (Nat.le_succ_of_le HG4.out)⟩, HIS.out, hB⟩
    | succ j =>
      rw [show ((j + 1 : Nat) : Int) - 1 = (j : Int) by omega]
      have hd0 : decide ((0 : Int) ≤ (j : Int)) = true := decide_eq_true (by omega)
      have hw2 : IntKind.i64.wrap ((j : Int) - 1) = (j : Int) - 1 := by rw [IntKind.wrap_i64]; omega
      have cx := rx.fp
      have cy := ry.fp
      have cz := rz.fp
      have ct := rt.fp
      have hoc : OnC (eMul (k / 2 ^ (j + 1)) P) := eMul_on HC.out _
      have h2s := Sp.plus_is HIS.out HIS.out hoc hoc
      have H2 := Lib.hid h2s
      have HOC2 := Lib.hid (eAdd_on hoc hoc)
      clear hoc h2s rx ry rz rt
      go_wp2_with (first | refine wpList_load_agg rfl 56 _ rfl g5 rfl _ [x, y, z, tt] _ hk5 Tryz.underlying56 rfl size_rspot ?_ | refine wpList_load_agg rfl 56 _ rfl g5 rfl _ [x, y, z, tt] _ hk5 Tryz.underlying56 rfl size_rspot ?_)
      refine (rsum_c ⟨_, _, _, _, rfl, cx, cy, cz, ct⟩ ⟨_, _, _, _, rfl, cx, cy, cz, ct⟩).mono ?_; rintro e_ w21 ⟨v20, rfl, hn, hb⟩
      obtain ⟨v20x, v20y, v20z, v20t, rfl, r20x, r20y, r20z, r20t⟩ := hn
      replace r20x := r20x.mono (Nat.succ_le_of_lt hk5.lt)
      replace r20y := r20y.mono (Nat.succ_le_of_lt hk5.lt)
      replace r20z := r20z.mono (Nat.succ_le_of_lt hk5.lt)
      replace r20t := r20t.mono (Nat.succ_le_of_lt hk5.lt)
      replace hk5 := hk5.keep hb
      replace hk3 := hk3.keep hb
      replace hk4 := hk4.keep hb
      replace cx := cx.below hb
      replace cy := cy.below hb
      replace cz := cz.below hb
      replace ct := ct.below hb
      replace hB := hB.trans (hb.mono hB.size)
      clear hb
      clear cx
      clear cy
      clear cz
      clear ct
      go_wp2_with (refine wpList_store_agg rfl 56 _ _ rfl g5 56 [x, y, z, tt] [v20x, v20y, v20z, v20t] rfl rfl hk5 size_rspot (by intro v_ hv_; simp only [List.mem_cons, List.not_mem_nil, or_false] at hv_; rcases hv_ with rfl | rfl | rfl | rfl <;> first | rfl | exact r20x.fp.one_cell | exact r20y.fp.one_cell | exact r20z.fp.one_cell | exact r20t.fp.one_cell) rfl ?_)
      intro w22 hn hg
      replace hk5 := hn
      replace hk3 := hk3.grown hg (fun e_ => NE3_5.out (Option.some.inj e_))
      replace hk4 := hk4.grown hg (fun e_ => NE4_5.out (Option.some.inj e_))
      replace hB := hB.grown hg hB.size (by intro k_ hk_; cases hk_; exact HG5.out)
      replace r20x := r20x.past hg
      replace r20y := r20y.past hg
      replace r20z := r20z.past hg
      replace r20t := r20t.past hg
      clear hn hg
      have bc := bit7_v (nk.below hB) j (by omega)
      go_wp2_with fail
      refine bc.mono ?_; rintro e_ w' ⟨rfl, rfl⟩
      clear bc
      by_cases hbit : k / 2 ^ j % 2 = 1
      · have hdb : decide (k / 2 ^ j % 2 = 1) = true := decide_eq_true hbit
        rw [hdb]
        have HE := Lib.hid (eMul_bit1 HC.out k j hbit)
        clear hbit hdb
        have dx := r20x.fp
        have dy := r20y.fp
        have dz := r20z.fp
        have dt := r20t.fp
        clear r20x
        clear r20y
        clear r20z
        clear r20t
        go_wp2_with (first | refine wpList_load_agg rfl 56 _ rfl g5 rfl _ [v20x, v20y, v20z, v20t] _ hk5 Tryz.underlying56 rfl size_rspot ?_ | refine wpList_load_agg rfl 56 _ rfl g3 rfl _ [vax, vay, vaz, vat] _ hk3 Tryz.underlying56 rfl size_rspot ?_)
        refine (rsum_c ⟨_, _, _, _, rfl, dx, dy, dz, dt⟩ ⟨_, _, _, _, rfl, cax.below hB, cay.below hB, caz.below hB, cat.below hB⟩).mono ?_; rintro e_ w31 ⟨v26, rfl, hn, hb⟩
        obtain ⟨v26x, v26y, v26z, v26t, rfl, r26x, r26y, r26z, r26t⟩ := hn
        replace r26x := r26x.mono (Nat.succ_le_of_lt hk5.lt)
        replace r26y := r26y.mono (Nat.succ_le_of_lt hk5.lt)
        replace r26z := r26z.mono (Nat.succ_le_of_lt hk5.lt)
        replace r26t := r26t.mono (Nat.succ_le_of_lt hk5.lt)
        replace hk5 := hk5.keep hb
        replace hk3 := hk3.keep hb
        replace hk4 := hk4.keep hb
        replace hB := hB.trans (hb.mono hB.size)
        replace dx := dx.below hb
        replace dy := dy.below hb
        replace dz := dz.below hb
        replace dt := dt.below hb
        clear hb
        clear dx
        clear dy
        clear dz
        clear dt
        go_wp2_with (refine wpList_store_agg rfl 56 _ _ rfl g5 56 [v20x, v20y, v20z, v20t] [v26x, v26y, v26z, v26t] rfl rfl hk5 size_rspot (by intro v_ hv_; simp only [List.mem_cons, List.not_mem_nil, or_false] at hv_; rcases hv_ with rfl | rfl | rfl | rfl <;> first | rfl | exact r26x.fp.one_cell | exact r26y.fp.one_cell | exact r26z.fp.one_cell | exact r26t.fp.one_cell) rfl ?_)
        intro w32 hn hg
        replace hk5 := hn
        replace hk3 := hk3.grown hg (fun e_ => NE3_5.out (Option.some.inj e_))
        replace hk4 := hk4.grown hg (fun e_ => NE4_5.out (Option.some.inj e_))
        replace hB := hB.grown hg hB.size (by intro k_ hk_; cases hk_; exact HG5.out)
        replace r26x := r26x.past hg
        replace r26y := r26y.past hg
        replace r26z := r26z.past hg
        replace r26t := r26t.past hg
        clear hn hg
        go_wp2_with fail
        go_roundw
        case rel => exact ⟨j, (s.plus s).plus a, _, _, _, _, by omega, rfl, hk5, r26x.mono (Nat.succ_le_succ HH5.out.2.1), r26y.mono (Nat.succ_le_succ HH5.out.2.1), r26z.mono (Nat.succ_le_succ HH5.out.2.1), r26t.mono (Nat.succ_le_succ HH5.out.2.1), by rw [← HE.out]; exact Sp.plus_is H2.out HI.out HOC2.out HC.out, hk3, hk4, hB⟩
        case measure => simp [intOf]
      · have hdb : decide (k / 2 ^ j % 2 = 1) = false := decide_eq_false hbit
        rw [hdb]
        have HE := Lib.hid (eMul_bit0 HC.out k j hbit)
        clear hbit hdb
        go_wp2_with fail
        go_roundw
        case rel => exact ⟨j, s.plus s, _, _, _, _, by omega, rfl, hk5, r20x.mono (Nat.succ_le_succ HH5.out.2.1), r20y.mono (Nat.succ_le_succ HH5.out.2.1), r20z.mono (Nat.succ_le_succ HH5.out.2.1), r20t.mono (Nat.succ_le_succ HH5.out.2.1), by rw [← HE.out]; exact H2.out, hk3, hk4, hB⟩
        case measure => simp [intOf]
end Go.Proofs.YtlolkighnnedfaaGreatDoor
