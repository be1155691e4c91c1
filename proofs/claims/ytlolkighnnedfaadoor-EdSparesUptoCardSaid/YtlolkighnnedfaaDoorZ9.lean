import Derived.Test.YtlolkighnnedfaaDoorZ8
import Derived.Test.YtlolkighnnedfaaDoorZ1
import Derived.WalkMore
import Derived.Test.YtlolkighnnedfaaDoorZ6
/- nat.long, by its contract. -/
set_option linter.unusedVariables false
set_option linter.unusedSimpArgs false
namespace Go.Proofs.YtlolkighnnedfaaDoor
open Go.RowKit Go.Sg

theorem _root_.Go.Sg.Blk.window {w : World} {g : Nat} {k : IntKind} {E : TypeId} {L : List Int} (h : Blk w g k E L) (off n cap : Nat) (hl : off + n ≤ L.length) (hc : n ≤ cap) (hm : cap ≤ 9223372036854775807) : Sl k w (some ⟨g, off, none⟩) cap (sub L off n) :=
  ⟨by rw [sub_len _ _ _ hl]; exact hc, hm, fun _ => ⟨g, off, rfl, fun j hj => by rw [sub_len _ _ _ hl] at hj; rw [nth_sub _ _ _ _ hj]; exact h.cell _ (by omega)⟩⟩

def LongPost (X Y : List Int) (w : World) (e : Ending) (w' : World) : Prop :=
  ∃ (gq gu : Nat) (Q U : List Int), e = .returned (.tuple #[.slice (some ⟨gq, 0, none⟩) Q.length Q.length, .slice (some ⟨gu, 0, none⟩) Y.length (X.length + 1)]) ∧ w.heap.size ≤ gq ∧ w.heap.size ≤ gu ∧ gq ≠ gu ∧
    Blk w' gq .u32 36 Q ∧ Blk w' gu .u32 36 U ∧ U32 Q ∧ U32 U ∧ Q.length ≤ X.length ∧ U.length = X.length + 1 ∧ val Q = val X / val Y ∧ val (U.take Y.length) = val X % val Y ∧ Below w.heap.size w w'

/-- The state at the head of the great loop. -/
def LongRel (N gv gu gq gp k m : Nat) (V : List Int) (w : World) (j : Nat) (wr : World) : Prop :=
  ∃ U Q P : List Int, Blk wr gv .u32 36 V ∧ Blk wr gu .u32 36 U ∧ Blk wr gq .u32 36 Q ∧ Blk wr gp .u32 36 P ∧ U32 U ∧ U32 Q ∧ U32 P ∧
    U.length = m + 1 ∧ Q.length = m - (k + 2) + 1 ∧ P.length = k + 3 ∧ LongU N (val V) j U Q ∧ Below w.heap.size w wr

set_option maxHeartbeats 4000000 in
set_option maxRecDepth 20000 in
theorem nlong_c (ax ay : Option Addr) (cx cy k m : Nat) (X Y : List Int) (w : World) (hx : Sl .u32 w ax cx X) (hy : Sl .u32 w ay cy Y) (ux : U32 X) (uy : U32 Y) (hX : X.length = m) (hY : Y.length = k + 2) (hkm : k + 2 ≤ m) (hm : m ≤ 35184372088832) (hy1 : lb Y (k + 1) ≠ 0) :
    Calls Tryd.prog 110 #[.slice ax m cx, .slice ay (k + 2) cy] w (LongPost X Y w) := by
  obtain ⟨b', off', rfl, hcc'⟩ := hy.cells (by omega)
  have d1 := hcc' (k + 1) (by omega)
  rw [← lb_cast uy] at d1
  have l1 := lb_lt uy (k + 1)
  have TN := Lib.hid (top_norm uy hY hy1)
  obtain ⟨y1, hyd⟩ : ∃ y1, y1 = lb Y (k + 1) := ⟨_, rfl⟩
  rw [← hyd] at d1 l1 TN hy1
  have l2 : (y1 : Int) ≤ 4294967295 := by unfold R at l1; omega
  have hbl : bl y1 ≤ 32 := (bl_le_iff _ _).2 (by unfold R at l1; omega)
  obtain ⟨s, hs⟩ : ∃ s, s = 32 - bl y1 := ⟨_, rfl⟩
  have hs32 : s < 32 := by have := bl_pos hy1; omega
  have es : Hid ((32 : Int) - (bl ((y1 : Int).toNat) : Int) = (s : Int)) := Lib.hid (by rw [Int.toNat_natCast]; omega)
  rw [← hs] at TN
  have HY1 := Lib.hid hyd
  clear hcc' hyd hbl hs l1
  go_enter Tryd.func110, Tryd.ntmps110
  go_wp2_with fail
  refine (LeadingZeros32_c _ _ (by omega) l2).mono ?_; rintro e w' ⟨rfl, rfl⟩
  rw [es.out]
  go_wp2_with (at_make; refine wpList_make_blk _ rfl _ _ 26 rfl 36 .u32 4 Tryd.underlying26 info32 (k + 2) _ _ rfl rfl rfl rfl (by omega) (by omega) ?_)
  intro w1 hk1 hs1 hb1
  obtain ⟨gv, hgv⟩ : ∃ g, g = w.heap.size := ⟨_, rfl⟩
  rw [← hgv] at hk1 ⊢
  have u1 := up_c gv 0 (k + 2) (k + 2) s _ _ cy Y w1 hk1 (.zeros (by omega) _) (by simp) (Nat.le_refl _) (hy.below hb1) uy (fun b o h1 h2 => by rw [hgv]; exact hy.apart (Nat.le_refl _) b o h1 h2) (by simp; omega) hs32
  rw [hY] at u1
  have HGV := Lib.hid hgv
  have HS1 := Lib.hid hs1
  clear hgv hs1 es
  go_wp2_with fail
  refine u1.mono ?_; rintro e w2 ⟨V, c, rfl, hV, uV, lV, _, hval, hg2⟩
  rw [List.length_replicate] at lV
  have hB2 : Below w.heap.size w w2 := hb1.grown hg2 hb1.size (by intro g h; have := HGV.out; simp at h; omega)
  have EV : Hid (val V = val Y * 2 ^ s) := Lib.hid (by
    rw [sub_zero_off, List.take_of_length_le (by omega), List.take_of_length_le (by omega)] at hval
    exact no_carry hval TN.out.1)
  have HLV := Lib.hid lV
  have hx2 := hx.below hB2
  have gv2 := hV.lt
  clear hval hg2 u1 hk1 lV
  go_wp2_with (at_make; refine wpList_make_blk _ rfl _ _ 26 rfl 36 .u32 4 Tryd.underlying26 info32 (m + 1) _ _ rfl rfl (by omega) (by omega) (by omega) (by omega) ?_)
  intro w3 hk3 hs3 hb3
  obtain ⟨gu, hgu⟩ : ∃ g, g = w2.heap.size := ⟨_, rfl⟩
  rw [← hgu] at hk3 ⊢
  have hapx : ∀ b o, ax = some ⟨b, o, none⟩ → 0 < X.length → b ≠ gu := fun b o h1 h2 => by rw [hgu]; exact hx2.apart (Nat.le_refl _) b o h1 h2
  have u2 := up_c gu 0 (m + 1) (m + 1) s _ _ cx X w3 hk3 (.zeros (by omega) _) (by simp) (Nat.le_refl _) (hx2.below hb3) ux hapx (by simp; omega) hs32
  rw [hX] at u2
  have hguv : gv < gu := by omega
  have hV3 := hV.below hb3 gv2
  have hB3 := hB2.trans (hb3.mono hB2.size)
  have HGU := Lib.hid hgu
  have hs3' : gu < w3.heap.size := by omega
  clear hgu hs3 hb3 hV hx2 gv2 hapx
  go_wp2_with fail
  refine u2.mono ?_; rintro e w4 ⟨U, c, rfl, hU, uU, lU, _, hval, hg4⟩
  rw [List.length_replicate] at lU
  have hV4 := hV3.grown hg4 (by simp; omega)
  have hB4 : Below w.heap.size w w4 := hB3.grown hg4 hB3.size (by intro g h; have := HGU.out; have := hB2.size; simp at h; omega)
  have EU : Hid (val U = val X * 2 ^ s) := Lib.hid (by
    rw [sub_zero_off, List.take_of_length_le (by omega), List.take_of_length_le (by omega)] at hval
    refine no_carry hval ?_
    have h1 := val_lt ux
    rw [hX] at h1
    have h2 : 2 ^ s < R := Nat.lt_of_lt_of_le (Nat.pow_lt_pow_right (by decide) hs32) (by decide)
    rw [Nat.pow_succ]
    exact Nat.lt_of_le_of_lt (Nat.mul_le_mul_right _ (Nat.le_of_lt h1)) (Nat.mul_lt_mul_of_pos_left h2 (Rpow_pos m)))
  have HLU := Lib.hid lU
  have gu4 := hU.lt
  clear hval hg4 u2 hk3 lU hV3 hB3
  have hmk : ((m : Int) - ((k : Int) + 2) + 1) = ((m - (k + 2) + 1 : Nat) : Int) := by omega
  obtain ⟨ql, hql⟩ : ∃ ql, ql = m - (k + 2) + 1 := ⟨_, rfl⟩
  rw [← hql] at hmk
  have HMK := Lib.hid hmk
  have HQL := Lib.hid hql
  have hq35 : ql ≤ 35184372088832 := by omega
  have hq0 : 0 < ql := by omega
  clear hmk hql
  go_wp2_with (at_make; refine wpList_make_blk _ rfl _ _ 26 rfl 36 .u32 4 Tryd.underlying26 info32 ql _ _ rfl rfl HMK.out HMK.out (by omega) (by omega) ?_)
  intro w5 hk5 hs5 hb5
  obtain ⟨gq, hgq⟩ : ∃ g, g = w4.heap.size := ⟨_, rfl⟩
  rw [← hgq] at hk5 ⊢
  have hV5 := hV4.below hb5 (by omega)
  have hU5 := hU.below hb5 gu4
  have hB5 := hB4.trans (hb5.mono hB4.size)
  have hguq : gu < gq := by omega
  have gq5 := hk5.lt
  clear hgq hs5 hb5 hV4 hU hB4 gu4
  go_wp2_with (at_make; refine wpList_make_blk _ rfl _ _ 26 rfl 36 .u32 4 Tryd.underlying26 info32 (k + 3) _ _ rfl rfl (by omega) (by omega) (by omega) (by omega) ?_)
  intro w6 hk6 hs6 hb6
  obtain ⟨gp, hgp⟩ : ∃ g, g = w5.heap.size := ⟨_, rfl⟩
  rw [← hgp] at hk6 ⊢
  have hgqp : gq < gp := by omega
  have wgv : Hid (w.heap.size ≤ gv) := Lib.hid (by rw [HGV.out]; omega)
  have R0 : LongRel (val X * 2 ^ s) gv gu gq gp k m V w ql w6 := ⟨U, _, _, hV5.below hb6 (by omega), hU5.below hb6 (by omega), hk5.below hb6 (by omega), hk6, uU, .zeros (by omega) _, .zeros (by omega) _, HLU.out, by rw [HQL.out]; simp, by simp,
    by rw [EV.out]; exact LongU.start (by rw [← hX]; exact val_lt ux) TN.out.2 hkm EU.out ql HQL.out (List.drop_of_length_le (by simp)), hB5.trans (hb6.mono hB5.size)⟩
  clear hgp hs6 hb6 hV5 hU5 hk5 hB5 gq5 hk6
  go_wp2_with fail
  go_loopw [12] (fun t wr => ∃ j : Nat, j ≤ ql ∧ t = .int .i64 ((j : Int) - 1) ∧ LongRel (val X * 2 ^ s) gv gu gq gp k m V w j wr)
    (fun t _ => (intOf t + 1).toNat)
  case atStart => exact ⟨ql, Nat.le_refl _, by go_num, R0⟩
  case round =>
    clear R0
    obtain ⟨j, hj, rfl, U, Q, P, hV, hU, hQ, hP, uU, uQ, uP, lU, lQ, lP, hL, hB⟩ := hrel
    have HL := Lib.hid hL
    have LU := Lib.hid lU
    have LQ := Lib.hid lQ
    have LP := Lib.hid lP
    clear hL lU lQ lP
    by_cases h0 : 0 < j
    · obtain ⟨i, rfl⟩ : ∃ i, j = i + 1 := ⟨j - 1, by omega⟩
      have hj3 : (((i + 1 : Nat) : Int) - 1) = (i : Int) := by omega
      have hin : i < ql := by omega
      rw [hj3]
      have HJ := Lib.hid hj3
      clear hj3 h0
      have WIN := Lib.hid (HL.out.window (n := k + 2) (by rw [EV.out]; exact TN.out.1) (by rw [LU.out]; have := HQL.out; omega))
      have hil : i + (k + 3) ≤ U.length := by rw [LU.out]; have := HQL.out; omega
      have hwin := hU.window i (k + 3) (m + 1 - i) hil (by have := LU.out; omega) (by omega)
      have hVs : Sl .u32 wr (some ⟨gv, 0, none⟩) (k + 2) V := by
        have := hV.sl_full (by rw [HLV.out]; omega)
        rwa [HLV.out] at this
      have eLW := sub_len U i (k + 3) hil
      have TP := Lib.hid (top_ne uV HLV.out (by rw [EV.out]; exact Nat.le_trans TN.out.2 (Nat.le_mul_of_pos_right _ (Nat.two_pow_pos s))))
      have ce := estimate_c _ _ _ _ k _ V wr hwin hVs (uU.sub i (k + 3)) uV eLW HLV.out TP.out WIN.out.2
      have hil2 : i + (k + 3) ≤ m + 1 := by have := LU.out; omega
      have hil3 : (i : Int) + ((k : Int) + 2) + 1 ≤ (m : Int) + 1 := by omega
      have HIL := Lib.hid hil
      have ew1 : Hid (i + (k + 2) + 1 - i = k + 3) := Lib.hid (by omega)
      clear hwin hVs eLW hil
      go_wp2_with fail
      go_step3
      go_wp2_with fail
      rw [ew1.out]
      refine ce.mono ?_; rintro e w2 ⟨d, rfl, hqd, hdR, hdr⟩
      have hV2 := hV.below hdr.below hV.lt
      have hU2 := hU.below hdr.below hU.lt
      have hQ2 := hQ.below hdr.below hQ.lt
      have hP2 := hP.below hdr.below hP.lt
      have hB2 := hB.trans (hdr.belowB)
      have HQD := Lib.hid hqd
      clear hV hU hQ hP hB hdr ce hqd
      go_wp2_with fail
      go_step3
      go_wp2_with fail
      go_loopw [13] (fun dv wx => ∃ (d : Nat) (P : List Int), dv = .int .u64 (d : Int) ∧ val (sub U i (k + 3)) / val V ≤ d ∧ d < R ∧ Blk wx gp .u32 36 P ∧ U32 P ∧ P.length = k + 3 ∧ w2.grownBy wx (some gp))
        (fun dv _ => estMu dv)
      case atStart => exact ⟨d, P, rfl, HQD.out, hdR, hP2, uP, LP.out, rfl, rfl, rfl, Nat.le_refl _, fun _ _ _ => rfl⟩
      case round =>
        clear hP2 uP LP HQD hdR
        obtain ⟨d, P, rfl, hqd, hdR, hP, uP, lP, hg⟩ := hrel
        have HQD := Lib.hid hqd
        have LP := Lib.hid lP
        have hV := hV2.grown hg (by simp; omega)
        have hU := hU2.grown hg (by simp; omega)
        clear hqd lP
        go_wp2_with fail
        go_loopw [14, 68] (fun cv t wy => ∃ (x c : Nat) (P : List Int), x ≤ k + 2 ∧ t = .int .i64 (x : Int) ∧ cv = .int .u64 (c : Int) ∧ c < R ∧ Blk wy gp .u32 36 P ∧ U32 P ∧ P.length = k + 3 ∧
            val (P.take x) + R ^ x * c = d * val (V.take x) ∧ w2.grownBy wy (some gp))
          (fun _ t _ => k + 2 - (intOf t).toNat)
        case atStart => exact ⟨0, 0, P, by omega, rfl, rfl, by decide, hP, uP, LP.out, by simp [val], hg⟩
        case round =>
          clear hP uP LP hg hV hU
          obtain ⟨x, c, P, hx, rfl, rfl, hc, hP, uP, lP, hval, hg⟩ := hrel
          have LP := Lib.hid lP
          have HV := Lib.hid hval
          have hV := hV2.grown hg (by simp; omega)
          have hcR : c ≤ 4294967295 := by unfold R at hc; omega
          clear hval lP
          by_cases hxk : x < k + 2
          · have hcv := hV.cell x (by rw [HLV.out]; omega)
            have hcp := hP.cell x (by rw [LP.out]; omega)
            have hfp := hP.free x
            rw [← lb_cast uV] at hcv
            rw [← lb_cast uP] at hcp
            have hll := lb_lt uV x
            have hsq := mul_lt_sq hdR hll
            obtain ⟨l, hl⟩ : ∃ l, l = lb V x := ⟨_, rfl⟩
            rw [← hl] at hcv hll hsq
            have HL2 := Lib.hid hl
            obtain ⟨pq, hpq⟩ : ∃ pq, pq = d * l := ⟨_, rfl⟩
            have hpq2 : ((d : Int) * (l : Int)) = (pq : Int) := by rw [hpq, Int.natCast_mul]
            rw [← hpq] at hsq
            have HPQ := Lib.hid hpq
            have hl4 : (l : Int) ≤ 4294967295 := by unfold R at hll; omega
            have hd4 : (d : Int) ≤ 4294967295 := by unfold R at hdR; omega
            have s0 : Hid (((c : Int) + (pq : Int)) % 4294967296 = (((c + pq) % R : Nat) : Int)) := Lib.hid (by unfold R; omega)
            have s1 : Hid (((c : Int) + (pq : Int)) / 4294967296 = (((c + pq) / R : Nat) : Int)) := Lib.hid (by unfold R; omega)
            have fin : Hid ((c + pq) / R < R ∧ U32 (P.set x (((c + pq) % R : Nat) : Int)) ∧ (P.set x (((c + pq) % R : Nat) : Int)).length = k + 3 ∧
                val ((P.set x (((c + pq) % R : Nat) : Int)).take (x + 1)) + R ^ (x + 1) * ((c + pq) / R) = d * val (V.take (x + 1))) := Lib.hid (by
              refine ⟨by unfold R; omega, uP.set _ (by omega) (by unfold R; omega), by simpa using LP.out, ?_⟩
              rw [val_take_set_succ _ _ _ (by rw [LP.out]; omega), Int.toNat_natCast, Rpow_next, Nat.add_assoc, column, val_take_next, ← HL2.out, Nat.mul_add d, ← HV.out, HPQ.out, Nat.mul_add, Nat.mul_left_comm d]
              omega)
            clear hl hpq hll hc
            go_wp2_with fail
            go_roundw
            case rel =>
              obtain ⟨f1, f2, f3, f4⟩ := fin.out
              exact ⟨x + 1, (c + pq) / R, _, by omega, by go_num, by rw [s1.out], f1, by rw [s0.out]; exact hP.set _ _, f2, f3, f4, grownBy_trans hg (grownBy_set _ _ _)⟩
            case measure => simp [intOf]; omega
          · obtain rfl : x = k + 2 := by omega
            have hcp := hP.cell (k + 2) (by rw [LP.out]; omega)
            have hfp := hP.free (k + 2)
            have hcnm : (c : Int) % 4294967296 = c := by omega
            obtain ⟨P', hP'd⟩ : ∃ P', P' = P.set (k + 2) (c : Int) := ⟨_, rfl⟩
            obtain ⟨wz, hwz⟩ : ∃ wz, wz = wr.setCell ⟨gp, k + 2, none⟩ (.int .u32 (c : Int)) := ⟨_, rfl⟩
            have hgz : w2.grownBy wz (some gp) := by rw [hwz]; exact grownBy_trans hg (grownBy_set _ _ _)
            have hPz : Blk wz gp .u32 36 P' := by rw [hwz, hP'd]; exact hP.set _ _
            have uPz : U32 P' := by rw [hP'd]; exact uP.set _ (by omega) (by omega)
            have lPz : P'.length = k + 3 := by rw [hP'd]; simpa using LP.out
            have vPz : Hid (val P' = d * val V) := Lib.hid (by
              have e1 := val_take_set_succ P (k + 2) (c : Int) (by rw [LP.out]; omega)
              rw [← hP'd, List.take_of_length_le (by omega), Int.toNat_natCast, HV.out, List.take_of_length_le (by rw [HLV.out]; omega)] at e1
              exact e1)
            have hUz := hU2.grown hgz (by simp; omega)
            have HWZ := Lib.hid hwz
            have hwin := hUz.window i (k + 3) (m + 1 - i) HIL.out (by omega) (by omega)
            have hPs := hPz.sl_full (by omega)
            have cb := below_c _ _ _ _ (sub U i (k + 3)) P' wz hwin hPs (uU.sub i (k + 3)) uPz (by rw [sub_len U i (k + 3) HIL.out, lPz])
            rw [sub_len U i (k + 3) HIL.out, lPz, vPz.out] at cb
            rw [lPz] at hPs
            have LPZ := Lib.hid lPz
            clear hP'd hwz hg hP uP LP HV hwin hPs lPz hV
            go_wp2_with fail
            rw [ew1.out, ← HWZ.out]
            refine cb.mono ?_; rintro e w3 ⟨rfl, hdr3⟩
            have hPz3 := hPz.below hdr3.below hPz.lt
            have hUz3 := hUz.below hdr3.below hUz.lt
            have hg3 : w2.grownBy w3 (some gp) := by obtain ⟨nd, rfl⟩ := hdr3; exact grownBy_drewN hgz nd
            have vpos : Hid (0 < val V) := Lib.hid (by rw [EV.out]; exact Nat.mul_pos (Nat.lt_of_lt_of_le (Rpow_pos _) TN.out.2) (Nat.two_pow_pos s))
            clear hPz hUz hgz hdr3 HWZ cb hcp hfp
            by_cases hlt : val (sub U i (k + 3)) < d * val V
            · have hd1 : 1 ≤ d := by
                rcases Nat.eq_zero_or_pos d with h | h
                · rw [h] at hlt; omega
                · exact h
              have hq1 : Hid (val (sub U i (k + 3)) / val V ≤ d - 1) := Lib.hid (by
                have := (Nat.div_lt_iff_lt_mul vpos.out).2 hlt
                omega)
              have hdR1 : Hid (d - 1 < R) := Lib.hid (by omega)
              have hd4 : (d : Int) ≤ 4294967295 := by unfold R at hdR; omega
              rw [decide_eq_true hlt]
              clear hlt hdR
              go_wp2_with fail
              go_roundw
              case rel => exact ⟨d - 1, P', by go_num, hq1.out, hdR1.out, hPz3, uPz, LPZ.out, hg3⟩
              case measure => simp [estMu, intOf]; omega
            · rw [decide_eq_false hlt]
              have HLT := Lib.hid hlt
              have hd4 : (d : Int) ≤ 4294967295 := by unfold R at hdR; omega
              have hdm : (d : Int) % 4294967296 = d := by omega
              have hPs := hPz3.sl_full (by rw [LPZ.out]; omega)
              have ct := take_c gu i (k + 3) (m + 1 - i) U _ _ P' w3 hUz3 uU HIL.out (by omega) hPs uPz (fun b o h1 _ => by simp at h1; omega) (by rw [LU.out]; omega)
              rw [LPZ.out] at ct
              have hQ3 := hQ2.grown hg3 (by simp; omega)
              have hV3 := hV2.grown hg3 (by simp; omega)
              have hB3 := hB2.grown hg3 (by have := hB2.size; omega) (by intro g h; have := wgv.out; simp at h; omega)
              clear hlt hPs
              go_wp2_with fail
              rw [ew1.out]
              refine ct.mono ?_; rintro e w4 ⟨b, U', rfl, hb1, hU4, uU4, lU4, hout, hval, hg4⟩
              have HST := Lib.hid (show LongU (val X * 2 ^ s) (val V) i U' (Q.set i (d : Int)) by
                refine LongU.step HL.out (n := k + 2) (by rw [EV.out]; exact TN.out.1) HIL.out uU uU4 lU4 hout hb1 (P := P') ?_ vPz.out (Nat.not_lt.1 HLT.out) ?_ (by rw [LQ.out, ← HQL.out]; exact hin)
                · rw [List.take_of_length_le (l := P') (by rw [LPZ.out]; omega)] at hval
                  exact hval
                · have := HQD.out
                  exact (Nat.div_lt_iff_lt_mul vpos.out).1 (show val (sub U i (k + 3)) / val V < d + 1 by omega))
              have LU4 := Lib.hid (lU4.trans LU.out)
              have hQ4 := hQ3.grown hg4 (by simp; omega)
              have hV4 := hV3.grown hg4 (by simp; omega)
              have hP4 := hPz3.grown hg4 (by simp; omega)
              have hB4 := hB3.grown hg4 hB3.size (by intro g h; have := wgv.out; simp at h; omega)
              have hcq := hQ4.cell i (by rw [LQ.out, ← HQL.out]; exact hin)
              have hfq := hQ4.free i
              have hQ5 := hQ4.set i (d : Int)
              have uQ5 : U32 (Q.set i (d : Int)) := uQ.set _ (by omega) (by omega)
              have hdRR : d < R := hdR
              clear hval hout hg4 lU4 ct hb1 HL hdR
              go_wp2_with fail
              rw [Exit.noGoto_normal]
              clear hcq hfq hdm hd4 hcR hcnm
              go_wp2_with fail
              go_roundw
              case rel =>
                refine ⟨i, by omega, by go_num, U', Q.set i (d : Int), P', ?_, ?_, hQ5, ?_, uU4, uQ5, uPz, LU4.out, by have := LQ.out; simpa using this, LPZ.out, HST.out, ?_⟩
                · exact hV4.other (by omega) _ _
                · exact hU4.other (by omega) _ _
                · exact hP4.other (by omega) _ _
                · exact hB4.setCell (by have := wgv.out; show _ ≤ gq; omega) _
              case measure => simp [intOf]
    · obtain rfl : j = 0 := by omega
      rw [show (((0 : Nat) : Int) - 1) = -1 from rfl]
      have hsl := down_c gu (m + 1) s U wr hU uU (by rw [LU.out]; omega) (by rw [LU.out]; omega) hs32
      rw [LU.out] at hsl
      clear h0 hj
      go_wp2_with fail
      refine hsl.mono ?_; rintro e w2 ⟨U', rfl, hU2, uU2, lU2, hval, hg2⟩
      have hQ2 := hQ.grown hg2 (by simp; omega)
      have hB2 := hB.grown hg2 hB.size (by intro g h; have := wgv.out; simp at h; omega)
      have LU2 := Lib.hid (lU2.trans LU.out)
      have FIN := Lib.hid (long_fin (Nat.two_pow_pos s) (by have := HL.out.done.1; rw [EV.out] at this; exact this) (by have := HL.out.done.2; rw [EV.out] at this; exact this))
      have HVL := Lib.hid hval
      clear hval lU2 hsl hg2
      have hkm3 : (k : Int) + 2 ≤ (m : Int) + 1 := by omega
      have HQ2 := Lib.hid hQ2
      go_wp2_with fail
      go_quiet (fail)
      go_wp2_with fail
      go_ret2
      have hY1 : val X % val Y < R ^ (k + 2) := by
        have h1 := val_lt uy
        rw [hY] at h1
        exact Nat.lt_of_le_of_lt (Nat.le_of_lt (Nat.mod_lt _ (Nat.lt_of_lt_of_le (Rpow_pos _) TN.out.2))) h1
      have eR : val U' = val X % val Y := HVL.out.trans FIN.out.2
      have eQ : Q.length = ql := LQ.out.trans HQL.out.symm
      have sp := val_split U' (k + 2) (by rw [LU2.out]; omega)
      have := wgv.out
      refine ⟨gq, gu, Q, U', by rw [eQ, hX, hY]; rfl, by omega, by omega, by omega, HQ2.out, hU2, uQ, uU2, by have := HQL.out; omega, by rw [LU2.out, hX], FIN.out.1, ?_, (by repeat (first | exact hB2 | apply below_drewN))⟩
      rw [hY]
      refine no_carry (n := k + 2) ?_ hY1 (c := val (U'.drop (k + 2)))
      rw [← eR]
      exact sp.symm
end Go.Proofs.YtlolkighnnedfaaDoor
/- nat.DivMod, by its contract. -/
set_option linter.unusedVariables false
set_option linter.unusedSimpArgs false
namespace Go.Sg
open Go.RowKit

theorem append_types {P : Program} (w : World) (t t2 ty e e2 : TypeId) (ht : P.underlying t = some (.slice e)) (h2 : P.underlying t2 = some (.slice e2)) (b : Option Addr) (l c : Nat) (x : Value) :
    (Builtin.append_ #[t, t2] ty #[.slice b l c, x]).run P w = (Builtin.append_ #[t, t] ty #[.slice b l c, x]).run P w := by
  simp [Builtin.append_, run_underlying ht, run_underlying h2]

/-- 'append' where what is appended is of another slice type. -/
theorem wpList_append_two {P : Program} (w : World) {ops : Array Oper} {rest : List Oper} {o : Oper} {a : Act} {Q : Exit → Act → World → Prop} (hgd : o.guard = none) (s x : Operand) (t t2 : TypeId)
    (ho : o.op = .call { callee := .builtin .append, args := #[s, x], argTypes := #[t, t2] }) (B : Nat) (e e2 : TypeId) (k : IntKind) (bytes : Nat) (ht : P.underlying t = some (.slice e)) (ht2 : P.underlying t2 = some (.slice e2))
    (hi : (P.info? e).map (fun i => (i.zero, i.size, i.bytes)) = some (some (.int k 0), 1, bytes)) (v : Value) (xs : List Int) (hs : a.eval s = v) (hv : New B k e w v xs)
    (ad : Option Addr) (c n : Nat) (ys : List Int) (hx : a.eval x = .slice ad n c) (hn : n = ys.length) (hy : Cells k w ad ys) (hm : xs.length + ys.length ≤ 9223372036854775807) (hbytes : (xs.length + ys.length) * bytes ≤ 140737488355328) (hB : B ≤ w.heap.size)
    (h : ∀ v' w', New B k e w' v' (xs ++ ys) → w.grownBy w' v.ownBlock → (v'.ownBlock = v.ownBlock ∨ ∃ g, v'.ownBlock = some g ∧ w.heap.size ≤ g) → wpList P ops Q rest (a.put o.dst v') w') : wpList P ops Q (o :: rest) a w := by
  subst hn
  refine wpList_plain hgd fun K hK => ?_
  obtain ⟨v', w', hr, h2, h3, h4⟩ := run_append_new (P := P) w B t o.type e k bytes ht hi v xs hv ad c ys hy hm hbytes hB
  have hr2 : (Builtin.append_ #[t, t2] o.type #[v, .slice ad ys.length c]).run P w = .ok v' w' := by
    obtain ⟨av, cv, rfl, _⟩ := hv.sl
    rw [append_types w t t2 _ e e2 ht ht2]
    exact hr
  unfold Oper.wp execOp
  simp only [ho, resolve, invoke, builtin, Sem.run_bind, Sem.run_pure, Result.andThen_ok, List.map_toArray, List.map_cons, List.map_nil, hs, hx, hr2]
  exact hK _ _ (h v' w' h2 h3 h4)
end Go.Sg

namespace Go.Proofs.YtlolkighnnedfaaDoor
open Go.RowKit Go.Sg

/-- Quotient and rest, each new memory, and apart; or the complaint. -/
def DivPost (m n : Nat) (w : World) (e : Ending) (w' : World) : Prop :=
  (n = 0 → e = .returned (.tuple #[.slice none 0 0, .slice none 0 0, .int .i64 60])) ∧
  (0 < n → ∃ vq vr, e = .returned (.tuple #[vq, vr, .int .i64 0]) ∧ NatRes w.heap.size w' vq (m / n) ∧ NatRes w.heap.size w' vr (m % n) ∧ (∀ g, vq.ownBlock = some g → vr.ownBlock ≠ some g)) ∧ Below w.heap.size w w'

set_option maxHeartbeats 2000000 in
theorem DivMod_c (a a' : Option Addr) (cap cap' : Nat) (xs ys : List Int) (w : World) (hc : Sl .u32 w a cap xs) (hc' : Sl .u32 w a' cap' ys) (ux : U32 xs) (uy : U32 ys) (hl : xs.length ≤ 35184372088832) (hl' : ys.length ≤ 35184372088832) :
    Calls Tryd.prog 63 #[.slice a xs.length cap, .slice a' ys.length cap'] w (DivPost (val xs) (val ys) w) := by
  have CM := fun w hc hc' => Cmp_c a a' cap cap' xs ys w hc hc' ux uy
  go_enter Tryd.func63, Tryd.ntmps63
  go_wp2_with fail
  refine (value_c a cap xs _ hc).mono ?_; rintro e w' ⟨rfl, rfl⟩
  go_wp2_with fail
  refine (value_c a' cap' ys _ hc').mono ?_; rintro e w' ⟨rfl, rfl⟩
  have hx := Sl.norm hc
  have hy := Sl.norm hc'
  have ex : Hid (val (norm xs) = val xs) := Lib.hid (val_norm xs)
  have ey : Hid (val (norm ys) = val ys) := Lib.hid (val_norm ys)
  have vx := ux.norm
  have vy := uy.norm
  have cy := Canon.norm ys
  have cx := Canon.norm xs
  have hlx : (norm xs).length ≤ 35184372088832 := by rw [length_norm]; have := topz_le xs; omega
  have hly : (norm ys).length ≤ 35184372088832 := by rw [length_norm]; have := topz_le ys; omega
  generalize norm xs = x at *
  generalize norm ys = y at *
  obtain ⟨ny, hny⟩ : ∃ ny, ny = y.length := ⟨_, rfl⟩
  have HNY := Lib.hid hny
  rw [← hny] at hly ⊢
  clear hny
  by_cases hy0 : ny = 0
  · subst hy0
    obtain rfl : y = [] := List.eq_nil_of_length_eq_zero HNY.out.symm
    have hz : val ys = 0 := by rw [← ey.out]; rfl
    have HZ := Lib.hid hz
    clear CM hz
    go_wp2_with fail
    go_ret3
    exact ⟨fun _ => rfl, fun h => absurd HZ.out (by omega), Below.refl _ _⟩
  · have hy00 : (ny : Int) ≠ 0 := by omega
    have hbe : (((ny : Nat) : Int) == 0) = false := by simpa using hy00
    have hyp : Hid (0 < val ys) := Lib.hid (by
      rw [← ey.out]
      have := cy.ge vy (by have := HNY.out; omega)
      exact Nat.lt_of_lt_of_le (Rpow_pos _) this)
    go_wp2_with fail
    refine (CM _ hc hc').mono ?_; rintro e w0 ⟨rfl, hd0⟩
    have hB0 := hd0.belowB (B := w.heap.size)
    have hx0 := hx.below hd0.below
    have hy0' := hy.below hd0.below
    clear CM hc hc' hx hy hd0
    by_cases hlt : val xs < val ys
    · rw [cmpI_lt hlt]
      have HD := Lib.hid (show val xs / val ys = 0 ∧ val xs % val ys = val xs from ⟨Nat.div_eq_of_lt hlt, Nat.mod_eq_of_lt hlt⟩)
      clear hlt
      go_wp2_with (at_builtin; refine wpList_append_two _ rfl _ _ 27 26 rfl w.heap.size 36 36 .u32 4 Tryd.underlying27 Tryd.underlying26 info32 _ [] rfl (New.nil _ _ _ _) _ _ _ x rfl rfl hx0.cells (by simp; omega) (by simp; omega) hB0.size ?_)
      intro v1 w1 hn1 hg1 _
      have hB1 : Below w.heap.size w w1 := hB0.grown hg1 hB0.size fun g hg => by simp [Value.ownBlock] at hg
      clear hg1
      go_wp2_with fail
      go_ret3
      refine ⟨fun h => absurd h (by have := hyp.out; omega), fun _ => ⟨_, _, rfl, ?_, ⟨x, hn1, cx, vx, by rw [ex.out, HD.out.2]⟩, by simp [Value.ownBlock]⟩, hB1⟩
      rw [HD.out.1]
      exact ⟨[], New.nil _ _ _ _, Canon.nil, .nil (by omega), rfl⟩
    · have hge : ¬ cmpI (val xs) (val ys) < 0 := by unfold cmpI; rw [if_neg hlt]; split <;> omega
      have hrg := cmpI_rng (val xs) (val ys)
      have HLT := Lib.hid hlt
      generalize cmpI (val xs) (val ys) = cc at *
      clear hlt
      have hnm : ny ≤ x.length := by
        have := cy.len_lt vy (n := x.length) (by rw [ey.out]; exact Nat.lt_of_le_of_lt (Nat.not_lt.1 HLT.out) (by rw [← ex.out]; exact val_lt vx))
        rw [← HNY.out] at this
        exact this
      by_cases h1 : ny = 1
      · subst h1
        obtain ⟨b, off, rfl, hcc⟩ := hy0'.cells (by rw [← HNY.out]; omega)
        have hc0 := hcc 0 (by rw [← HNY.out]; omega)
        rw [← lb_cast vy, Nat.add_zero] at hc0
        have hd := lb_lt vy 0
        have e1 : Hid (val ys = lb y 0) := Lib.hid (by
          rw [← ey.out]
          have := val_take_next y 0
          rw [List.take_of_length_le (by rw [← HNY.out]; omega)] at this
          simpa [val] using this)
        obtain ⟨d, hde⟩ : ∃ d, d = lb y 0 := ⟨_, rfl⟩
        rw [← hde] at hc0 hd e1
        have hdp : 0 < d := by have := hyp.out; rw [e1.out] at this; exact this
        have hd4 : (d : Int) ≤ 4294967295 := by unfold R at hd; omega
        have cs := nshort_c a _ x d w0 hx0 vx hd hdp hlx
        clear hcc hde hx0 hy0' hd
        go_wp2_with fail
        refine cs.mono ?_; rintro e w1 ⟨g, L, r, rfl, hg, hL, lL, uL, hv, hr, hb1⟩
        have hB1 := hB0.trans (hb1.mono hB0.size)
        have hgB : w.heap.size ≤ g := Nat.le_trans hB0.size hg
        have hrR : r < 18446744073709551616 := by omega
        have hr4 : (r : Int) ≤ 4294967295 := by omega
        have pc := proper_c _ _ _ _ (hL.sl_full (by omega))
        have HLL := Lib.hid lL
        have HV := Lib.hid hv
        have HDR := Lib.hid hr
        rw [lL] at pc
        have fc := FromUint_c r w1 hrR
        have q1 : NatRes1 w.heap.size w1 _ (val L) := .of_blk hL hgB uL rfl (by omega)
        clear cs hb1 lL hv hr
        go_wp2_with fail
        refine pc.mono ?_; rintro e w' ⟨rfl, rfl⟩
        go_wp2_with fail
        refine fc.mono ?_; rintro e w2 ⟨vr, rfl, hres, hb2⟩
        have hB2 := hB1.trans (hb2.mono hB1.size)
        have hgl := hL.lt
        clear pc fc
        go_wp2_with fail
        go_ret3
        obtain ⟨gq, zq, ho, hn, hc, hu, hv⟩ := q1
        obtain ⟨gr, zr, ho2, hn2, hc2, hu2, hv2⟩ := hres
        have hv3 := HV.out
        rw [ex.out] at hv3
        refine ⟨fun h => absurd h (by have := hyp.out; omega), fun _ => ⟨_, _, rfl, ⟨zq, hn.below hb2 (fun g h => ?_), hc, hu, ?_⟩, ⟨zr, hn2.mono hB1.size, hc2, hu2, ?_⟩, ?_⟩, hB2⟩
        · simp [Value.ownBlock] at h; omega
        · rw [hv, e1.out, hv3, Nat.mul_add_div hdp, Nat.div_eq_of_lt HDR.out, Nat.add_zero]
        · rw [hv2, e1.out, hv3, Nat.mul_add_mod, Nat.mod_eq_of_lt HDR.out]
        · intro g' h1 h2
          have := (hn2.lt g' h2).1
          simp [Value.ownBlock] at h1
          omega
      · have hb1 : (((ny : Nat) : Int) == 1) = false := by simp; omega
        obtain ⟨k, hk⟩ : ∃ k, ny = k + 2 := ⟨ny - 2, by omega⟩
        subst hk
        have cl := nlong_c a a' _ _ k x.length x y w0 hx0 hy0' vx vy rfl HNY.out.symm hnm hlx (by
          have := cy.last (by rw [← HNY.out]; omega)
          rw [← HNY.out] at this
          have hc := lb_cast vy (k + 1)
          intro h0
          rw [h0] at hc
          exact this hc.symm)
        rw [← HNY.out] at cl
        clear hx0 hy0'
        go_wp2_with fail
        refine cl.mono ?_; rintro e w1 ⟨gq, gu, Q, U, rfl, hgq, hgu, hne, hQ, hU, uQ, uU, lQ, lU, hvq, hvu, hb1⟩
        have hB1 := hB0.trans (hb1.mono hB0.size)
        rw [← HNY.out] at hvu ⊢
        have p1 := proper_c _ _ _ _ (hQ.sl_full (by omega))
        have lT : (U.take (k + 2)).length = k + 2 := by simp; omega
        have p2 := proper_c _ _ _ _ (hU.sl (k + 2) (x.length + 1) (by omega) (by omega))
        rw [lT] at p2
        have HVQ := Lib.hid hvq
        have HVU := Lib.hid hvu
        have HLQ := Lib.hid lQ
        have HLU := Lib.hid lU
        have HLT2 := Lib.hid lT
        have hsz := hB0.size
        obtain ⟨lq, hlq⟩ : ∃ lq, lq = Q.length := ⟨_, rfl⟩
        rw [← hlq] at p1 ⊢
        have HQL := Lib.hid hlq
        have hlq3 : lq ≤ 35184372088832 := by omega
        clear cl hb1 hvq hvu lQ lU lT hlq
        go_wp2_with fail
        refine p1.mono ?_; rintro e w' ⟨rfl, rfl⟩
        go_wp2_with fail
        refine p2.mono ?_; rintro e w' ⟨rfl, rfl⟩
        clear p1 p2
        go_wp2_with fail
        go_ret3
        obtain ⟨zq, hn, hc, hu, hv⟩ := NatRes.of_blk (B := w.heap.size) hQ (by omega) uQ rfl (by have := HQL.out; omega)
        refine ⟨fun h => absurd h (by have := hyp.out; omega), fun _ => ⟨_, _, rfl, ⟨zq, hn, hc, hu, ?_⟩, ⟨norm (U.take (k + 2)), ?_, Canon.norm _, U32.norm (InR.take (by omega) uU _), ?_⟩, ?_⟩, hB1⟩
        · rw [hv, HVQ.out, ex.out, ey.out]
        · have ht := topz_le (U.take (k + 2))
          rw [HLT2.out] at ht
          have e1 : norm (U.take (k + 2)) = U.take (topz (U.take (k + 2))) := by rw [norm, List.take_take, Nat.min_eq_left ht]
          rw [length_norm (U.take (k + 2)), e1]
          exact New.of_blk hU (show w.heap.size ≤ gu by omega) (topz (U.take (k + 2))) (topz (U.take (k + 2))) (Nat.le_refl _) (by rw [HLU.out]; omega) (by omega)
        · rw [val_norm, HVU.out, ex.out, ey.out]
        · intro g' h1 h2
          simp [Value.ownBlock] at h1 h2
          omega
end Go.Proofs.YtlolkighnnedfaaDoor
/- What the calls of package nat hand back, as slices that are read. -/
set_option linter.unusedVariables false
set_option linter.unusedSimpArgs false
namespace Go.Proofs.YtlolkighnnedfaaDoor
open Go.RowKit Go.Sg

theorem NatRes.sl {B : Nat} {w : World} {v : Value} {n : Nat} (h : NatRes B w v n) : ∃ a c zs, v = .slice a zs.length c ∧ Sl .u32 w a c zs ∧ Canon zs ∧ U32 zs ∧ val zs = n := by
  obtain ⟨zs, hn, c, u, hv⟩ := h
  obtain ⟨a, cp, he, hs⟩ := hn.sl
  exact ⟨a, cp, zs, he, hs, c, u, hv⟩
/-- What Sub hands back, as a slice that is read. -/
theorem SubPost.sl {m n : Nat} {w : World} {e : Ending} {w' : World} (h : SubPost m n w e w') :
    ∃ a c zs, e = .returned (.tuple #[.slice a zs.length c, .bool (decide (n ≤ m))]) ∧ Sl .u32 w' a c zs ∧ Canon zs ∧ U32 zs ∧ val zs = m - n ∧ Below w.heap.size w w' := by
  by_cases hh : n ≤ m
  · obtain ⟨v, rfl, hr⟩ := h.1 hh
    obtain ⟨a, c, zs, rfl, hs, cz, uz, hv⟩ := hr.sl
    exact ⟨a, c, zs, by rw [decide_eq_true hh], hs, cz, uz, hv, h.2.2⟩
  · refine ⟨none, 0, [], ?_, .nil _ _ _ _ (by omega), .nil, .nil (by omega), by rw [val_nil]; omega, h.2.2⟩
    rw [h.2.1 (by omega), decide_eq_false hh]; rfl
theorem same_val {xs ys : List Int} (cx : Canon xs) (cy : Canon ys) (ux : U32 xs) (uy : U32 ys) (h : val xs = val ys) : decide (xs = ys) = true := decide_eq_true (cx.ext cy ux uy h)
theorem Dr.b {w w' : World} (h : Dr w w') : Below w.heap.size w w' := h.below

/-- What DivMod hands back, as slices that are read. -/
theorem DivPost.sl {m n : Nat} {w : World} {e : Ending} {w' : World} (h : DivPost m n w e w') :
    ∃ aq cq zq ar cr zr, e = .returned (.tuple #[.slice aq zq.length cq, .slice ar zr.length cr, .int .i64 (if n = 0 then 60 else 0)]) ∧ Sl .u32 w' aq cq zq ∧ Canon zq ∧ U32 zq ∧ Sl .u32 w' ar cr zr ∧ Canon zr ∧ U32 zr ∧
      (0 < n → val zq = m / n ∧ val zr = m % n) ∧ (n = 0 → zq = [] ∧ zr = []) ∧ Below w.heap.size w w' := by
  rcases Nat.eq_zero_or_pos n with h0 | h0
  · refine ⟨none, 0, [], none, 0, [], ?_, .nil _ _ _ _ (by omega), .nil, .nil (by omega), .nil _ _ _ _ (by omega), .nil, .nil (by omega), fun h => absurd h (by omega), fun _ => ⟨rfl, rfl⟩, h.2.2⟩
    rw [h.1 h0, if_pos h0]; rfl
  · obtain ⟨vq, vr, rfl, hq, hr, _⟩ := h.2.1 h0
    obtain ⟨aq, cq, zq, rfl, sq, canq, uq, vq⟩ := hq.sl
    obtain ⟨ar, cr, zr, rfl, sr, canr, ur, vr⟩ := hr.sl
    exact ⟨aq, cq, zq, ar, cr, zr, by rw [if_neg (by omega)], sq, canq, uq, sr, canr, ur, fun _ => ⟨vq, vr⟩, fun h => absurd h (by omega), h.2.2⟩

end Go.Proofs.YtlolkighnnedfaaDoor
/- package modn: size, wrong, rest, minus, Add, Sub, Mul, by their contracts. (Printed by gen_moda.py.) -/
set_option linter.unusedVariables false
set_option linter.unusedSimpArgs false
namespace Go.Proofs.YtlolkighnnedfaaDoor
open Go.RowKit Go.Sg

/-- A number that lies in a slice. -/
structure NPart where
  a : Option Addr
  cap : Nat
  xs : List Int
def NPart.val (p : NPart) : Value := .slice p.a p.xs.length p.cap
def NPart.num (p : NPart) : Nat := Sg.val p.xs
structure NRows (w : World) (b : Nat) (ps : List NPart) : Prop where
  cell : ∀ j, (h : j < ps.length) → w.cell? ⟨b, j, none⟩ = some ps[j].val
  sl : ∀ p ∈ ps, Sl .u32 w p.a p.cap p.xs
  u : ∀ p ∈ ps, U32 p.xs
  len : ∀ p ∈ ps, p.xs.length ≤ 35184372088832
theorem nrows_new (w : World) (E : TypeId) (ps : List NPart) (cs : Array Value) (hcs : cs = (ps.map NPart.val).toArray) (hs : ∀ p ∈ ps, Sl .u32 w p.a p.cap p.xs) (hu : ∀ p ∈ ps, U32 p.xs) (hl : ∀ p ∈ ps, p.xs.length ≤ 35184372088832) :
    NRows (w.alloc (.cells cs E)) w.heap.size ps := by
  subst hcs
  refine ⟨fun j hj => ?_, fun p hp => (hs p hp).below ((Below.refl _ _).alloc (Nat.le_refl _) _), hu, hl⟩
  rw [cell_of_row (w.alloc (.cells (ps.map NPart.val).toArray E)) w.heap.size j _ E (0, 0) (Go.heap_alloc_new w _)]
  simp [hj]

set_option maxHeartbeats 1000000 in
theorem size_c (a : Option Addr) (cap : Nat) (zs : List Int) (w : World) (hc : Sl .u32 w a cap zs) (ux : U32 zs) (hl : zs.length ≤ 35184372088832) :
    Calls Tryd.prog 120 #[.slice a zs.length cap] w fun e w' => e = .returned (.int .i64 (((bl (val zs) + 31) / 32 : Nat) : Int)) ∧ w = w' := by
  have bc := Bits_c a cap zs w hc ux (by omega)
  have hb := (bl_le_iff (val zs) (32 * zs.length)).2 (by rw [← Rpow_two]; exact val_lt ux)
  obtain ⟨n, hn⟩ : ∃ n, n = bl (val zs) := ⟨_, rfl⟩
  rw [← hn] at bc hb ⊢
  clear hn
  go_enter Tryd.func120, Tryd.ntmps120
  go_wp2_with fail
  refine bc.mono ?_; rintro e w' ⟨rfl, rfl⟩
  go_wp2_with fail
  go_ret
  exact ⟨congrArg Ending.returned (congrArg (Value.int .i64) (by omega)), rfl⟩

set_option maxHeartbeats 1000000 in
theorem wrong_c (b cap : Nat) (ps : List NPart) (w : World) (hr : NRows w b ps) (hp : 0 < ps.length) (hm : ps.length ≤ 4611686018427387904) :
    Calls Tryd.prog 93 #[.slice (some ⟨b, 0, none⟩) ps.length cap] w fun e w' => e = .returned (.int .i64 (wrongN (ps.map NPart.num))) ∧ w = w' := by
  have sz : ∀ i, (h : i < ps.length) → Calls Tryd.prog 120 #[ps[i].val] w fun e w' => e = .returned (.int .i64 (((bl ps[i].num + 31) / 32 : Nat) : Int)) ∧ w = w' :=
    fun i h => size_c _ _ _ w (hr.sl _ (List.getElem_mem h)) (hr.u _ (List.getElem_mem h)) (hr.len _ (List.getElem_mem h))
  have bt : ∀ i, (h : i < ps.length) → Calls Tryd.prog 44 #[ps[i].val] w fun e w' => e = .returned (.int .i64 (bl ps[i].num)) ∧ w = w' :=
    fun i h => Bits_c _ _ _ w (hr.sl _ (List.getElem_mem h)) (hr.u _ (List.getElem_mem h)) (by have := hr.len _ (List.getElem_mem h); omega)
  have bn : ∀ i, (h : i < ps.length) → bl ps[i].num ≤ 1125899906842624 := fun i h => by
    have h1 := (bl_le_iff (Sg.val ps[i].xs) (32 * ps[i].xs.length)).2 (by rw [← Rpow_two]; exact val_lt (hr.u _ (List.getElem_mem h)))
    have := hr.len _ (List.getElem_mem h)
    unfold NPart.num
    omega
  have SZ := Lib.hid sz
  have BT := Lib.hid bt
  have BN := Lib.hid bn
  have HC := Lib.hid hr.cell
  obtain ⟨n, hn⟩ : ∃ n, n = ps.length := ⟨_, rfl⟩
  have HN := Lib.hid hn
  rw [← hn] at hp hm ⊢
  clear sz bt bn hn
  go_enter Tryd.func93, Tryd.ntmps93
  go_wp2_with fail
  go_loop [7] (fun t => ∃ i : Nat, i ≤ n ∧ t = .int .i64 (i : Int) ∧ ∀ p ∈ ps.take i, bigB p.num = false) (fun t => n - (intOf t).toNat)
  case atStart => exact ⟨0, by omega, rfl, fun p hp => by simp at hp⟩
  case round =>
    obtain ⟨i, hi, rfl, hall⟩ := hrel
    have HA := Lib.hid hall
    clear hall
    by_cases hlt : i < n
    · have hlt2 : i < ps.length := by rw [← HN.out]; exact hlt
      have c1 := HC.out i hlt2
      have s1 := SZ.out i hlt2
      have hbn := BN.out i hlt2
      obtain ⟨p, hpp⟩ : ∃ p, p = ps[i] := ⟨_, rfl⟩
      rw [← hpp] at c1 s1 hbn
      have hmem : Hid (p ∈ ps) := Lib.hid (by rw [hpp]; exact List.getElem_mem hlt2)
      have htk : Hid (ps.take (i + 1) = ps.take i ++ [p]) := Lib.hid (by rw [List.take_succ_eq_append_getElem hlt2, ← hpp])
      obtain ⟨v, hv⟩ : ∃ v, v = p.val := ⟨_, rfl⟩
      rw [← hv] at c1 s1
      obtain ⟨k, hk⟩ : ∃ k, k = bl p.num := ⟨_, rfl⟩
      rw [← hk] at s1 hbn
      have HK := Lib.hid hk
      obtain ⟨q, hq⟩ : ∃ q, q = (k + 31) / 32 := ⟨_, rfl⟩
      rw [← hq] at s1
      clear hpp hv hk hlt2
      by_cases hbig : 128 < q
      · have hd : decide ((128 : Int) < (q : Int)) = true := decide_eq_true (by omega)
        have fin : Hid (wrongN (ps.map NPart.num) = 10) := Lib.hid (by
          unfold wrongN
          rw [if_pos]
          rw [List.any_map, List.any_eq_true]
          exact ⟨p, hmem.out, decide_eq_true (by rw [← HK.out]; omega)⟩)
        clear hq
        go_wp2_with fail
        refine s1.mono ?_; rintro e w' ⟨rfl, rfl⟩
        go_wp2_with fail
        go_ret
        exact ⟨by rw [fin.out]; first | done | rfl, rfl⟩
      · have hd : decide ((128 : Int) < (q : Int)) = false := decide_eq_false (by omega)
        have hno : Hid (bigB p.num = false) := Lib.hid (decide_eq_false (by rw [← HK.out]; omega))
        clear hq
        go_wp2_with fail
        refine s1.mono ?_; rintro e w' ⟨rfl, rfl⟩
        go_wp2_with fail
        go_round
        case rel => exact ⟨i + 1, by omega, by go_num, fun x hx => by
          rw [htk.out, List.mem_append, List.mem_singleton] at hx
          rcases hx with hx | rfl
          · exact HA.out x hx
          · exact hno.out⟩
        case measure => simp [intOf]; omega
    · obtain rfl : i = n := by omega
      obtain ⟨j, rfl⟩ : ∃ j, i = j + 1 := ⟨i - 1, by omega⟩
      have hlt2 : j < ps.length := by rw [← HN.out]; omega
      have c1 := HC.out j hlt2
      have s1 := BT.out j hlt2
      obtain ⟨p, hpp⟩ : ∃ p, p = ps[j] := ⟨_, rfl⟩
      rw [← hpp] at c1 s1
      have hlast : Hid ((ps.map NPart.num).getLastD 0 = p.num) := Lib.hid (by
        rw [List.getLastD_eq_getLast?, List.getLast?_eq_getElem?, List.length_map, ← HN.out, Nat.add_sub_cancel, List.getElem?_map, List.getElem?_eq_getElem hlt2, ← hpp]; rfl)
      have hnone : Hid ((ps.map NPart.num).any bigB = false) := Lib.hid (by
        rw [List.any_map, List.any_eq_false]
        intro x hx
        have := HA.out x (by rw [List.take_of_length_le (by rw [← HN.out]; omega)]; exact hx)
        simp [this])
      obtain ⟨v, hv⟩ : ∃ v, v = p.val := ⟨_, rfl⟩
      rw [← hv] at c1 s1
      obtain ⟨k, hk⟩ : ∃ k, k = bl p.num := ⟨_, rfl⟩
      rw [← hk] at s1
      have HK := Lib.hid hk
      have hd1 : decide (((j + 1 : Nat) : Int) < ((j + 1 : Nat) : Int)) = false := by simp
      have hpi : ((j + 1 : Nat) : Int) - 1 = (j : Int) := by omega
      clear hpp hv hk hlt2 hp
      by_cases h2 : k < 2
      · have hd : decide ((k : Int) < 2) = true := decide_eq_true (by omega)
        have fin : Hid (wrongN (ps.map NPart.num) = 60) := Lib.hid (by
          unfold wrongN
          rw [hnone.out, if_neg (by simp), hlast.out, if_pos]
          have := (bl_le_iff p.num 1).1 (by rw [← HK.out]; omega)
          omega)
        go_wp2_with fail
        refine s1.mono ?_; rintro e w' ⟨rfl, rfl⟩
        go_wp2_with fail
        go_ret
        exact ⟨by rw [fin.out]; first | done | rfl, rfl⟩
      · have hd : decide ((k : Int) < 2) = false := decide_eq_false (by omega)
        have fin : Hid (wrongN (ps.map NPart.num) = 0) := Lib.hid (by
          unfold wrongN
          rw [hnone.out, if_neg (by simp), hlast.out, if_neg]
          intro h
          have := (bl_le_iff p.num 1).2 (by omega)
          rw [← HK.out] at this
          omega)
        go_wp2_with fail
        refine s1.mono ?_; rintro e w' ⟨rfl, rfl⟩
        go_wp2_with fail
        go_ret
        exact ⟨by rw [fin.out]; first | done | rfl, rfl⟩

set_option maxHeartbeats 1000000 in
theorem rest_c (a a' : Option Addr) (cap cap' : Nat) (xs ys : List Int) (w : World) (hx : Sl .u32 w a cap xs) (hy : Sl .u32 w a' cap' ys) (ux : U32 xs) (uy : U32 ys) (hl : xs.length ≤ 35184372088832) (hl' : ys.length ≤ 35184372088832) (h0 : 0 < val ys) :
    Calls Tryd.prog 94 #[.slice a xs.length cap, .slice a' ys.length cap'] w (NatPost (val xs % val ys) w) := by
  have dc := DivMod_c a a' cap cap' xs ys w hx hy ux uy hl hl'
  obtain ⟨r, hr⟩ : ∃ r, r = val xs % val ys := ⟨_, rfl⟩
  obtain ⟨q, hq⟩ : ∃ q, q = val xs / val ys := ⟨_, rfl⟩
  obtain ⟨n, hn⟩ : ∃ n, n = val ys := ⟨_, rfl⟩
  unfold DivPost at dc
  rw [← hr, ← hq, ← hn] at dc
  rw [← hn] at h0
  rw [← hr]
  clear hr hq hn
  have H0 := Lib.hid h0
  clear h0
  go_enter Tryd.func94, Tryd.ntmps94
  go_wp2_with fail
  refine dc.mono ?_; rintro e w1 ⟨_, h1, hb⟩
  obtain ⟨vq, vr, rfl, hq, hr, _⟩ := h1 H0.out
  clear dc h1
  go_wp2_with fail
  go_ret
  exact ⟨vr, rfl, hr, hb⟩

set_option maxHeartbeats 1000000 in
theorem minus_c (a a' a'' : Option Addr) (cap cap' cap'' : Nat) (xs ys zs : List Int) (w : World) (hx : Sl .u32 w a cap xs) (hy : Sl .u32 w a' cap' ys) (hz : Sl .u32 w a'' cap'' zs) (ux : U32 xs) (uy : U32 ys) (uz : U32 zs)
    (hl : xs.length ≤ 17592186044415) (hl' : ys.length ≤ 17592186044415) (hl'' : zs.length ≤ 17592186044415) (hb0 : val ys ≤ val zs) :
    Calls Tryd.prog 114 #[.slice a xs.length cap, .slice a' ys.length cap', .slice a'' zs.length cap''] w (NatPost (subM (val xs) (val ys) (val zs)) w) := by
  have sc := Sub_c a a' cap cap' xs ys w hx hy ux uy (by omega) (by omega)
  by_cases h : val ys ≤ val xs
  · have e : Hid (subM (val xs) (val ys) (val zs) = val xs - val ys) := Lib.hid (if_pos h)
    have H := Lib.hid h
    clear h hb0
    go_enter Tryd.func114, Tryd.ntmps114
    go_wp2_with fail
    refine sc.mono ?_; rintro e1 w1 hp
    obtain ⟨v, rfl, hr⟩ := hp.1 H.out
    have hb := hp.2.2
    clear sc hp
    go_wp2_with fail
    go_ret
    exact ⟨v, rfl, by rw [e.out]; exact hr, hb⟩
  · have e : Hid (subM (val xs) (val ys) (val zs) = val xs + val zs - val ys) := Lib.hid (if_neg h)
    have H := Lib.hid h
    have HB := Lib.hid hb0
    clear h hb0
    go_enter Tryd.func114, Tryd.ntmps114
    go_wp2_with fail
    refine sc.mono ?_; rintro e1 w1 hp
    obtain rfl := hp.2.1 (by have := H.out; omega)
    have hb := hp.2.2
    replace hx := hx.below hb
    replace hy := hy.below hb
    replace hz := hz.below hb
    clear sc hp
    go_wp2_with fail
    refine (Add_c _ _ _ _ _ _ _ hx hz ux uz (by omega) (by omega)).mono ?_; rintro e w2 ⟨v1, rfl, hn, hb2⟩
    obtain ⟨as_, cs, ss, rfl, hs, cans, us, hv⟩ := hn.sl
    replace hy := hy.below hb2
    have lm := (Lim.of_list ux hl).add (Lim.of_list uz hl'')
    have ls := (lm.eq hv).len cans us
    have HV := Lib.hid hv
    have hB := hb.trans (hb2.mono hb.size)
    clear hn hb hb2 lm hv
    go_wp2_with fail
    refine (Sub_c _ _ _ _ _ _ _ hs hy us uy (by omega) (by omega)).mono ?_; rintro e1 w3 hp
    obtain ⟨v, rfl, hr⟩ := hp.1 (by rw [HV.out]; have := HB.out; omega)
    have hb := hp.2.2
    have hB2 := hB.trans (hb.mono hB.size)
    rw [HV.out] at hr
    have hr2 : NatRes w.heap.size w3 v (subM (val xs) (val ys) (val zs)) := by
      rw [e.out]
      obtain ⟨z, h1, h2⟩ := hr
      exact ⟨z, h1.mono hB.size, h2⟩
    clear hp hb hB hr
    go_wp2_with fail
    go_ret
    exact ⟨v, rfl, hr2, hB2⟩

/-- An answer modulo something, or the code. -/
def ModPost (code : Int) (n : Nat) (w : World) (e : Ending) (w' : World) : Prop :=
  (code ≠ 0 → e = .returned (.tuple #[.slice none 0 0, .int .i64 code])) ∧ (code = 0 → ∃ v, e = .returned (.tuple #[v, .int .i64 0]) ∧ NatRes w.heap.size w' v n) ∧ Below w.heap.size w w'
theorem ModPost.sl {code : Int} {n : Nat} {w : World} {e : Ending} {w' : World} (h : ModPost code n w e w') :
    ∃ a c zs, e = .returned (.tuple #[.slice a zs.length c, .int .i64 code]) ∧ Sl .u32 w' a c zs ∧ Canon zs ∧ U32 zs ∧ (code = 0 → val zs = n) ∧ (code ≠ 0 → zs = []) ∧ Below w.heap.size w w' := by
  by_cases hh : code = 0
  · obtain ⟨v, rfl, hr⟩ := h.2.1 hh
    obtain ⟨a, c, zs, rfl, hs, cz, uz, hv⟩ := hr.sl
    exact ⟨a, c, zs, by rw [hh], hs, cz, uz, fun _ => hv, fun h => absurd hh h, h.2.2⟩
  · exact ⟨none, 0, [], h.1 hh, .nil _ _ _ _ (by omega), .nil, .nil (by omega), fun h => absurd h hh, fun _ => rfl, h.2.2⟩
theorem NatRes.mono {B B' : Nat} {w : World} {v : Value} {n : Nat} (h : NatRes B w v n) (hB : B' ≤ B) : NatRes B' w v n := by
  obtain ⟨z, h1, h2⟩ := h
  exact ⟨z, h1.mono hB, h2⟩


set_option maxHeartbeats 2000000 in
theorem mAdd_c (a a' a'' : Option Addr) (cap cap' cap'' : Nat) (xs ys zs : List Int) (w : World) (sx : Sl .u32 w a cap xs) (sy : Sl .u32 w a' cap' ys) (sz : Sl .u32 w a'' cap'' zs) (ux : U32 xs) (uy : U32 ys) (uz : U32 zs) (hl : xs.length ≤ 17592186044415) (hl' : ys.length ≤ 17592186044415) (hl'' : zs.length ≤ 17592186044415) :
    Calls Tryd.prog 46 #[.slice a xs.length cap, .slice a' ys.length cap', .slice a'' zs.length cap''] w (ModPost (wrongN [val xs, val ys, val zs]) ((val xs + val ys) % val zs) w) := by
  have nr := nrows_new w 27 [⟨a, cap, xs⟩, ⟨a', cap', ys⟩, ⟨a'', cap'', zs⟩] #[.slice a xs.length cap, .slice a' ys.length cap', .slice a'' zs.length cap''] rfl (by simp; exact ⟨sx, sy, sz⟩) (by simp; exact ⟨ux, uy, uz⟩) (by simp; omega)
  have wc := wrong_c w.heap.size 3 _ _ nr (by simp) (by simp)
  simp only [List.length_cons, List.length_nil, Nat.zero_add, Nat.reduceAdd, List.map_cons, List.map_nil, NPart.num] at wc
  have hok := fun h => wrongN_ok (ns := [val xs, val ys, val zs]) h
  simp only [List.mem_cons, List.not_mem_nil, or_false, forall_eq_or_imp, forall_eq, List.getLastD_cons, List.getLastD_nil] at hok
  obtain ⟨code, hcode⟩ : ∃ c, c = wrongN [val xs, val ys, val zs] := ⟨_, rfl⟩
  rw [← hcode] at wc hok ⊢
  have hb0 := (Below.refl w.heap.size w).alloc (Nat.le_refl _) (.cells #[.slice a xs.length cap, .slice a' ys.length cap', .slice a'' zs.length cap''] 27)
  replace sx := sx.below hb0
  replace sy := sy.below hb0
  replace sz := sz.below hb0
  clear nr hcode
  by_cases hc : code = 0
  · obtain ⟨⟨mx, my, mz⟩, h2⟩ := hok hc
    subst hc
    have H2 := Lib.hid h2
    clear hok h2
    go_enter Tryd.func46, Tryd.ntmps46
    go_wp2_with fail
    refine wc.mono ?_; rintro e w0 ⟨rfl, rfl⟩
    obtain ⟨w0, hw0⟩ : ∃ x, x = w.alloc (.cells #[.slice a xs.length cap, .slice a' ys.length cap', .slice a'' zs.length cap''] 27) := ⟨_, rfl⟩
    rw [← hw0] at hb0 sx sy sz wc ⊢
    clear wc hw0
    have hB := hb0
    clear hb0
    have hBs := hB.size
    go_wp2_with fail
    refine (Add_c _ _ _ _ _ _ _ sx sy ux uy (by omega) (by omega)).mono ?_; rintro e w1 ⟨v1, rfl, hn, hb⟩
    replace sx := sx.below hb
    replace sy := sy.below hb
    replace sz := sz.below hb
    replace hB := hB.trans (hb.mono hB.size)
    clear hb
    obtain ⟨as_, cs, zz, rfl, ss, cans, us, hv⟩ := hn.sl
    have ls := (Lim.eq (mx.add my) hv).len cans us
    have HV := Lib.hid hv
    clear hn hv
    have rc := rest_c _ _ _ _ _ _ _ ss sz us uz (by omega) (by omega) (by have := H2.out; omega)
    rw [HV.out] at rc
    have hBs := hB.size
    go_wp2_with fail
    refine (rc).mono ?_; rintro e w2 ⟨v1, rfl, hn, hb⟩
    replace sx := sx.below hb
    replace sy := sy.below hb
    replace sz := sz.below hb
    replace hB := hB.trans (hb.mono hB.size)
    clear hb
    have fin := hn.mono hBs
    clear hn rc
    go_wp2_with fail
    go_ret2
    exact ⟨fun h => absurd rfl h, fun _ => ⟨_, rfl, fin⟩, hB⟩
  · have hne : (code != 0) = true := by simpa using hc
    have HC := Lib.hid hc
    clear hok hc
    go_enter Tryd.func46, Tryd.ntmps46
    go_wp2_with fail
    refine wc.mono ?_; rintro e w0 ⟨rfl, rfl⟩
    clear wc
    go_wp2_with fail
    go_ret2
    exact ⟨fun _ => rfl, fun h => absurd h HC.out, hb0⟩

set_option maxHeartbeats 2000000 in
theorem mMul_c (a a' a'' : Option Addr) (cap cap' cap'' : Nat) (xs ys zs : List Int) (w : World) (sx : Sl .u32 w a cap xs) (sy : Sl .u32 w a' cap' ys) (sz : Sl .u32 w a'' cap'' zs) (ux : U32 xs) (uy : U32 ys) (uz : U32 zs) (hl : xs.length ≤ 17592186044415) (hl' : ys.length ≤ 17592186044415) (hl'' : zs.length ≤ 17592186044415) :
    Calls Tryd.prog 45 #[.slice a xs.length cap, .slice a' ys.length cap', .slice a'' zs.length cap''] w (ModPost (wrongN [val xs, val ys, val zs]) ((val xs * val ys) % val zs) w) := by
  have nr := nrows_new w 27 [⟨a, cap, xs⟩, ⟨a', cap', ys⟩, ⟨a'', cap'', zs⟩] #[.slice a xs.length cap, .slice a' ys.length cap', .slice a'' zs.length cap''] rfl (by simp; exact ⟨sx, sy, sz⟩) (by simp; exact ⟨ux, uy, uz⟩) (by simp; omega)
  have wc := wrong_c w.heap.size 3 _ _ nr (by simp) (by simp)
  simp only [List.length_cons, List.length_nil, Nat.zero_add, Nat.reduceAdd, List.map_cons, List.map_nil, NPart.num] at wc
  have hok := fun h => wrongN_ok (ns := [val xs, val ys, val zs]) h
  simp only [List.mem_cons, List.not_mem_nil, or_false, forall_eq_or_imp, forall_eq, List.getLastD_cons, List.getLastD_nil] at hok
  obtain ⟨code, hcode⟩ : ∃ c, c = wrongN [val xs, val ys, val zs] := ⟨_, rfl⟩
  rw [← hcode] at wc hok ⊢
  have hb0 := (Below.refl w.heap.size w).alloc (Nat.le_refl _) (.cells #[.slice a xs.length cap, .slice a' ys.length cap', .slice a'' zs.length cap''] 27)
  replace sx := sx.below hb0
  replace sy := sy.below hb0
  replace sz := sz.below hb0
  clear nr hcode
  by_cases hc : code = 0
  · obtain ⟨⟨mx, my, mz⟩, h2⟩ := hok hc
    subst hc
    have H2 := Lib.hid h2
    clear hok h2
    go_enter Tryd.func45, Tryd.ntmps45
    go_wp2_with fail
    refine wc.mono ?_; rintro e w0 ⟨rfl, rfl⟩
    obtain ⟨w0, hw0⟩ : ∃ x, x = w.alloc (.cells #[.slice a xs.length cap, .slice a' ys.length cap', .slice a'' zs.length cap''] 27) := ⟨_, rfl⟩
    rw [← hw0] at hb0 sx sy sz wc ⊢
    clear wc hw0
    have hB := hb0
    clear hb0
    have hBs := hB.size
    go_wp2_with fail
    refine (Mul_c _ _ _ _ _ _ _ sx sy ux uy (by omega) (by omega)).mono ?_; rintro e w1 ⟨v1, rfl, hn, hb⟩
    replace sx := sx.below hb
    replace sy := sy.below hb
    replace sz := sz.below hb
    replace hB := hB.trans (hb.mono hB.size)
    clear hb
    obtain ⟨as_, cs, zz, rfl, ss, cans, us, hv⟩ := hn.sl
    have ls := (Lim.eq (mx.mul my) hv).len cans us
    have HV := Lib.hid hv
    clear hn hv
    have rc := rest_c _ _ _ _ _ _ _ ss sz us uz (by omega) (by omega) (by have := H2.out; omega)
    rw [HV.out] at rc
    have hBs := hB.size
    go_wp2_with fail
    refine (rc).mono ?_; rintro e w2 ⟨v1, rfl, hn, hb⟩
    replace sx := sx.below hb
    replace sy := sy.below hb
    replace sz := sz.below hb
    replace hB := hB.trans (hb.mono hB.size)
    clear hb
    have fin := hn.mono hBs
    clear hn rc
    go_wp2_with fail
    go_ret2
    exact ⟨fun h => absurd rfl h, fun _ => ⟨_, rfl, fin⟩, hB⟩
  · have hne : (code != 0) = true := by simpa using hc
    have HC := Lib.hid hc
    clear hok hc
    go_enter Tryd.func45, Tryd.ntmps45
    go_wp2_with fail
    refine wc.mono ?_; rintro e w0 ⟨rfl, rfl⟩
    clear wc
    go_wp2_with fail
    go_ret2
    exact ⟨fun _ => rfl, fun h => absurd h HC.out, hb0⟩

set_option maxHeartbeats 2000000 in
theorem mSub_c (a a' a'' : Option Addr) (cap cap' cap'' : Nat) (xs ys zs : List Int) (w : World) (sx : Sl .u32 w a cap xs) (sy : Sl .u32 w a' cap' ys) (sz : Sl .u32 w a'' cap'' zs) (ux : U32 xs) (uy : U32 ys) (uz : U32 zs) (hl : xs.length ≤ 17592186044415) (hl' : ys.length ≤ 17592186044415) (hl'' : zs.length ≤ 17592186044415) :
    Calls Tryd.prog 69 #[.slice a xs.length cap, .slice a' ys.length cap', .slice a'' zs.length cap''] w (ModPost (wrongN [val xs, val ys, val zs]) (subM (val xs % val zs) (val ys % val zs) (val zs)) w) := by
  have nr := nrows_new w 27 [⟨a, cap, xs⟩, ⟨a', cap', ys⟩, ⟨a'', cap'', zs⟩] #[.slice a xs.length cap, .slice a' ys.length cap', .slice a'' zs.length cap''] rfl (by simp; exact ⟨sx, sy, sz⟩) (by simp; exact ⟨ux, uy, uz⟩) (by simp; omega)
  have wc := wrong_c w.heap.size 3 _ _ nr (by simp) (by simp)
  simp only [List.length_cons, List.length_nil, Nat.zero_add, Nat.reduceAdd, List.map_cons, List.map_nil, NPart.num] at wc
  have hok := fun h => wrongN_ok (ns := [val xs, val ys, val zs]) h
  simp only [List.mem_cons, List.not_mem_nil, or_false, forall_eq_or_imp, forall_eq, List.getLastD_cons, List.getLastD_nil] at hok
  obtain ⟨code, hcode⟩ : ∃ c, c = wrongN [val xs, val ys, val zs] := ⟨_, rfl⟩
  rw [← hcode] at wc hok ⊢
  have hb0 := (Below.refl w.heap.size w).alloc (Nat.le_refl _) (.cells #[.slice a xs.length cap, .slice a' ys.length cap', .slice a'' zs.length cap''] 27)
  replace sx := sx.below hb0
  replace sy := sy.below hb0
  replace sz := sz.below hb0
  clear nr hcode
  by_cases hc : code = 0
  · obtain ⟨⟨mx, my, mz⟩, h2⟩ := hok hc
    subst hc
    have H2 := Lib.hid h2
    clear hok h2
    go_enter Tryd.func69, Tryd.ntmps69
    go_wp2_with fail
    refine wc.mono ?_; rintro e w0 ⟨rfl, rfl⟩
    obtain ⟨w0, hw0⟩ : ∃ x, x = w.alloc (.cells #[.slice a xs.length cap, .slice a' ys.length cap', .slice a'' zs.length cap''] 27) := ⟨_, rfl⟩
    rw [← hw0] at hb0 sx sy sz wc ⊢
    clear wc hw0
    have hB := hb0
    clear hb0
    have h0 := H2.out
    have rx := rest_c _ _ _ _ _ _ _ sx sz ux uz (by omega) (by omega) (by omega)
    have hBs := hB.size
    go_wp2_with fail
    refine (rx).mono ?_; rintro e w1 ⟨v1, rfl, hn, hb⟩
    replace sx := sx.below hb
    replace sy := sy.below hb
    replace sz := sz.below hb
    replace hB := hB.trans (hb.mono hB.size)
    clear hb
    obtain ⟨ax, cx, zx, rfl, s1, c1, u1, hv⟩ := hn.sl
    have l1 := (Lim.eq (mx.le (Nat.mod_le _ _)) hv).len c1 u1
    have V1 := Lib.hid hv
    clear hn hv rx
    have ry := rest_c _ _ _ _ _ _ _ sy sz uy uz (by omega) (by omega) (by omega)
    have hBs := hB.size
    go_wp2_with fail
    refine (ry).mono ?_; rintro e w2 ⟨v1, rfl, hn, hb⟩
    replace sx := sx.below hb
    replace sy := sy.below hb
    replace sz := sz.below hb
    replace s1 := s1.below hb
    replace hB := hB.trans (hb.mono hB.size)
    clear hb
    obtain ⟨ay, cy, zy, rfl, s2, c2, u2, hv⟩ := hn.sl
    have l2 := (Lim.eq (my.le (Nat.mod_le _ _)) hv).len c2 u2
    have V2 := Lib.hid hv
    clear hn hv ry
    have hlt : val zy ≤ val zs := by rw [V2.out]; exact Nat.le_of_lt (Nat.mod_lt _ (by omega))
    have mc := minus_c _ _ _ _ _ _ _ _ _ _ s1 s2 sz u1 u2 uz (by omega) (by omega) (by omega) hlt
    rw [V1.out, V2.out] at mc
    clear hlt h0
    have hBs := hB.size
    go_wp2_with fail
    refine (mc).mono ?_; rintro e w3 ⟨v1, rfl, hn, hb⟩
    replace sx := sx.below hb
    replace sy := sy.below hb
    replace sz := sz.below hb
    replace s1 := s1.below hb
    replace s2 := s2.below hb
    replace hB := hB.trans (hb.mono hB.size)
    clear hb
    have fin := hn.mono hBs
    clear hn mc
    go_wp2_with fail
    go_ret2
    exact ⟨fun h => absurd rfl h, fun _ => ⟨_, rfl, fin⟩, hB⟩
  · have hne : (code != 0) = true := by simpa using hc
    have HC := Lib.hid hc
    clear hok hc
    go_enter Tryd.func69, Tryd.ntmps69
    go_wp2_with fail
    refine wc.mono ?_; rintro e w0 ⟨rfl, rfl⟩
    clear wc
    go_wp2_with fail
    go_ret2
    exact ⟨fun _ => rfl, fun h => absurd h HC.out, hb0⟩
end Go.Proofs.YtlolkighnnedfaaDoor
/- package nat: fill, Bytes, Fixed, Shl, Shr, by their contracts. -/
set_option linter.unusedVariables false
set_option linter.unusedSimpArgs false
namespace Go.Sg
open Go.RowKit
/-- A number's byte of 256^i; its bytes, the most significant first. -/
def byt (n i : Nat) : Nat := n / 256 ^ i % 256
theorem byt_lt (n i : Nat) : byt n i < 256 := Nat.mod_lt _ (by decide)
def beN (n len : Nat) : List Int := (List.range len).map fun i => ((byt n (len - 1 - i) : Nat) : Int)
theorem beN_len (n len : Nat) : (beN n len).length = len := by simp [beN]
theorem nth_beN {n len i : Nat} (h : i < len) : nth (beN n len) i = ((byt n (len - 1 - i) : Nat) : Int) := by
  rw [nth_get _ _ (by rw [beN_len]; exact h)]
  simp [beN]
theorem beN_u8 (n len : Nat) : U8 (beN n len) := by
  intro i
  by_cases h : i < len
  · rw [nth_beN h]
    have := byt_lt n (len - 1 - i)
    omega
  · rw [nth_out _ _ (by rw [beN_len]; omega)]; omega
theorem byt_limb {zs : List Int} (uz : U32 zs) (i : Nat) : byt (val zs) i = lb zs (i / 4) / 2 ^ (8 * (i % 4)) % 256 := by
  unfold byt
  by_cases h : i / 4 < zs.length
  · have e1 := val_split zs (i / 4) (by omega)
    have e2 := val_drop zs (i / 4) h
    have h1 := val_take_lt uz (i / 4) (by omega)
    have h3 : 256 ^ i = R ^ (i / 4) * 2 ^ (8 * (i % 4)) := by rw [Rpow_two, ← Nat.pow_add, show (256 : Nat) = 2 ^ 8 from rfl, ← Nat.pow_mul]; congr 1; omega
    rw [e2] at e1
    rw [h3, ← Nat.div_div_eq_div_mul, e1, Nat.add_mul_div_left _ _ (Rpow_pos _), Nat.div_eq_of_lt h1, Nat.zero_add]
    have h4 : R = 2 ^ (8 * (i % 4)) * (256 * 2 ^ (24 - 8 * (i % 4))) := by
      rw [show (256 : Nat) = 2 ^ 8 from rfl, ← Nat.pow_add, ← Nat.pow_add, show 8 * (i % 4) + (8 + (24 - 8 * (i % 4))) = 32 by omega]; rfl
    rw [h4, Nat.mul_assoc, Nat.add_mul_div_left _ _ (Nat.pow_pos (by decide)), Nat.mul_assoc, Nat.add_mul_mod_self_left]
  · rw [lb, nth_out _ _ (by omega)]
    have h1 := val_lt uz
    have h2 : val zs < 256 ^ i := by
      refine Nat.lt_of_lt_of_le h1 ?_
      rw [R_pow_256]
      exact Nat.pow_le_pow_right (by decide) (by omega)
    rw [Nat.div_eq_of_lt h2]
    simp
theorem beN_next {n len i : Nat} {L : List Int} {x : Int} (hl : L.length = len) (hi : i < len) (h : L.take i = (beN n len).take i) (hx : x = ((byt n (len - 1 - i) : Nat) : Int)) : (L.set i x).take (i + 1) = (beN n len).take (i + 1) := by
  rw [take_set_succ _ _ _ (by omega), h, take_succ_nth _ _ (by rw [beN_len]; exact hi), nth_beN hi, hx]
/-- How many bytes a number has. -/
def blen (n : Nat) : Nat := (bl n + 7) / 8
theorem lt_blen (n : Nat) : n < 256 ^ blen n := by
  have h := lt_bl n
  refine Nat.lt_of_lt_of_le h ?_
  rw [show (256 : Nat) = 2 ^ 8 from rfl, ← Nat.pow_mul]
  exact Nat.pow_le_pow_right (by decide) (by unfold blen; omega)
end Go.Sg
namespace Go.Proofs.YtlolkighnnedfaaDoor
open Go.RowKit Go.Sg

def FillPost (g n len : Nat) (w : World) (e : Ending) (w' : World) : Prop := e = .returned (.tuple #[]) ∧ Blk w' g .u8 5 (beN n len) ∧ w.grownBy w' (some g)

set_option maxHeartbeats 2000000 in
theorem fill_c (g len cap : Nat) (L : List Int) (ax : Option Addr) (cx : Nat) (X : List Int) (w : World) (hB : Blk w g .u8 5 L) (hL : L.length = len) (hcap : len ≤ cap) (hmax : len ≤ 4611686018427387904)
    (hx : Sl .u32 w ax cx X) (ux : U32 X) (hap : ∀ b o, ax = some ⟨b, o, none⟩ → 0 < X.length → b ≠ g) :
    Calls Tryd.prog 107 #[.slice (some ⟨g, 0, none⟩) len cap, .slice ax X.length cx] w (FillPost g (val X) len w) := by
  have hxm := Nat.le_trans hx.le hx.max
  have HL0 := Lib.hid hL
  clear hL
  go_enter Tryd.func107, Tryd.ntmps107
  go_wp2_with fail
  go_loopw [8] (fun t wr => ∃ (i : Nat) (L' : List Int), i ≤ len ∧ t = .int .i64 (i : Int) ∧ Blk wr g .u8 5 L' ∧ L'.length = len ∧ L'.take i = (beN (val X) len).take i ∧ w.grownBy wr (some g))
    (fun t _ => len - (intOf t).toNat)
  case atStart => exact ⟨0, L, by omega, rfl, hB, HL0.out, rfl, rfl, rfl, rfl, Nat.le_refl _, fun _ _ _ => rfl⟩
  case round =>
    clear hB
    obtain ⟨i, L', hi, rfl, hB, hlen, htake, hgr⟩ := hrel
    have HL := Lib.hid hlen
    have HT := Lib.hid htake
    clear hlen htake
    by_cases hlt : i < len
    · obtain ⟨at_, hat⟩ : ∃ at_, at_ = len - 1 - i := ⟨_, rfl⟩
      have eat : ((len : Int) - 1 - (i : Int)) = (at_ : Int) := by omega
      have hlen1 : at_ < len := by omega
      have c1 := hB.cell i (by rw [HL.out]; exact hlt)
      have f1 := hB.free i
      have s1 := hB.set i 0
      have f2 := s1.free i
      have g1 := grownBy_trans hgr (grownBy_set wr ⟨g, i, none⟩ (.int .u8 0))
      have hin : (i : Int) < (len : Int) := by omega
      have hd : decide ((i : Int) < (len : Int)) = true := decide_eq_true hin
      have BY := Lib.hid (byt_limb ux at_)
      have AT := Lib.hid hat
      clear hat
      by_cases hq : at_ / 4 < X.length
      · have hq2 : (at_ : Int) / 4 < (X.length : Int) := by omega
        obtain ⟨b, off, rfl, hc⟩ := (hx.grown' g1 (fun b o e hp h2 => hap b o e hp (Option.some.inj h2))).cells (by omega)
        have cX := hc (at_ / 4) hq
        rw [← lb_cast ux (at_ / 4)] at cX
        have lX := lb_lt ux (at_ / 4)
        unfold R at lX
        obtain ⟨m, hm⟩ : ∃ m, m = lb X (at_ / 4) := ⟨_, rfl⟩
        rw [← hm] at cX lX BY
        have m0 : (0 : Int) ≤ (m : Int) := by omega
        have m4 : (m : Int) ≤ 4294967295 := by omega
        have c2 := s1.cell i (by rw [List.length_set, HL.out]; exact hlt)
        obtain ⟨y, hy⟩ : ∃ y, y = m / 2 ^ (8 * (at_ % 4)) % 256 := ⟨_, rfl⟩
        have y8 : y < 256 := by rw [hy]; exact Nat.mod_lt _ (by decide)
        have s2 := s1.set i (y : Int)
        have g2 := grownBy_trans g1 (grownBy_set _ ⟨g, i, none⟩ (.int .u8 (y : Int)))
        have fin : Hid (((L'.set i 0).set i (y : Int)).length = len ∧ ((L'.set i 0).set i (y : Int)).take (i + 1) = (beN (val X) len).take (i + 1)) := Lib.hid
          ⟨by rw [List.length_set, List.length_set, HL.out], by
            rw [List.set_set]
            exact beN_next HL.out hlt HT.out (by rw [← AT.out, BY.out, ← hy])⟩
        have HY := Lib.hid hy
        clear hm hy hc hB
        go_wp2_with fail
        have e0 : (m : Int) / 2 ^ (8 * (at_ % 4)) % 256 = (y : Int) := by
          rw [HY.out, Int.natCast_emod, Int.natCast_ediv, Int.natCast_pow]; rfl
        go_roundw
        case rel =>
          rw [e0]
          exact ⟨i + 1, _, by omega, by go_num, s2, fin.out.1, fin.out.2, g2⟩
        case measure => simp [intOf]; omega
      · have hq2 : ¬ (at_ : Int) / 4 < (X.length : Int) := by omega
        have fin : Hid ((L'.set i 0).length = len ∧ (L'.set i 0).take (i + 1) = (beN (val X) len).take (i + 1)) := Lib.hid
          ⟨by rw [List.length_set, HL.out], beN_next HL.out hlt HT.out (by rw [← AT.out, BY.out, lb, nth_out _ _ (by omega)]; simp)⟩
        go_wp2_with fail
        go_roundw
        case rel => exact ⟨i + 1, _, by omega, by go_num, s1, fin.out.1, fin.out.2, g1⟩
        case measure => simp [intOf]; omega
    · obtain rfl : i = len := by omega
      have hd : decide ((i : Int) < (i : Int)) = false := by simp
      go_wp2_with fail
      go_end0
      refine ⟨rfl, ?_, hgr⟩
      have := HT.out
      rw [List.take_of_length_le (by rw [HL.out]; omega), List.take_of_length_le (by rw [beN_len]; omega)] at this
      rwa [← this]

/-- Bytes in new memory. -/
def BytesRes (B : Nat) (w : World) (v : Value) (xs : List Int) : Prop := New B .u8 5 w v xs
def NBytesPost (xs : List Int) (w : World) (e : Ending) (w' : World) : Prop := ∃ v, e = .returned v ∧ New w.heap.size .u8 5 w' v xs ∧ Below w.heap.size w w'
theorem info8a : (Tryd.prog.info? 5).map (fun i => (i.zero, i.size, i.bytes)) = some (some (.int .u8 0), 1, 1) := info8

/-- Whether a number fits in so many bytes, and the bytes. -/
def fitB (n : Nat) (size : Int) : Bool := decide (0 ≤ size ∧ size ≤ 16384 ∧ (blen n : Int) ≤ size)
def fixL (n : Nat) (size : Int) : List Int := if fitB n size = true then beN n size.toNat else []
def FixedPost (n : Nat) (size : Int) (w : World) (e : Ending) (w' : World) : Prop := ∃ v, e = .returned (.tuple #[v, .bool (fitB n size)]) ∧ New w.heap.size .u8 5 w' v (fixL n size) ∧ Below w.heap.size w w'
theorem FixedPost.no {n : Nat} {size : Int} {w w' : World} {e : Ending} (h : fitB n size = false) (he : e = .returned (.tuple #[.slice none 0 0, .bool false])) (hb : Below w.heap.size w w') : FixedPost n size w e w' := by
  refine ⟨_, by rw [h]; exact he, ?_, hb⟩
  unfold fixL
  rw [h]
  exact New.nil _ _ _ _

set_option maxHeartbeats 1000000 in
theorem Fixed_c (a : Option Addr) (cap : Nat) (zs : List Int) (size : Int) (w : World) (hc : Sl .u32 w a cap zs) (ux : U32 zs) (hl : zs.length ≤ 35184372088832) (hs : -9223372036854775808 ≤ size ∧ size ≤ 9223372036854775807) :
    Calls Tryd.prog 59 #[.slice a zs.length cap, .int .i64 size] w (FixedPost (val zs) size w) := by
  obtain ⟨hs1, hs2⟩ := hs
  have hb := (bl_le_iff (val zs) (32 * zs.length)).2 (by rw [← Rpow_two]; exact val_lt ux)
  obtain ⟨k, hk⟩ : ∃ k, k = bl (val zs) := ⟨_, rfl⟩
  have hB : blen (val zs) = (k + 7) / 8 := by rw [hk]; rfl
  have HB := Lib.hid hB
  have bc := Bits_c a cap zs w hc ux (by omega)
  rw [← hk] at bc hb
  have HK := Lib.hid hk
  clear hB hk
  by_cases h1 : size < 0
  · have hno := Lib.hid (show fitB (val zs) size = false from decide_eq_false (by omega))
    clear bc
    go_enter Tryd.func59, Tryd.ntmps59
    go_wp2_with fail
    go_ret2
    exact .no hno.out rfl (.refl _ _)
  · by_cases h2 : 16384 < size
    · have hno := Lib.hid (show fitB (val zs) size = false from decide_eq_false (by omega))
      have d1 : decide (size < 0) = false := decide_eq_false (by omega)
      have d2 : decide (16384 < size) = true := decide_eq_true (by omega)
      clear bc
      go_enter Tryd.func59, Tryd.ntmps59
      go_wp2_with fail
      go_ret2
      exact .no hno.out rfl (.refl _ _)
    · obtain ⟨m, rfl⟩ := Int.eq_ofNat_of_zero_le (show 0 ≤ size by omega)
      have d1 : decide ((m : Int) < 0) = false := decide_eq_false (by omega)
      have d2 : decide (16384 < (m : Int)) = false := decide_eq_false (by omega)
      by_cases h3 : m < (k + 7) / 8
      · have hno := Lib.hid (show fitB (val zs) m = false from decide_eq_false (by rw [HB.out]; omega))
        have d3 : decide ((m : Int) < ((k : Int) + 7) / 8) = true := decide_eq_true (by omega)
        go_enter Tryd.func59, Tryd.ntmps59
        go_wp2_with fail
        refine bc.mono ?_; rintro e w' ⟨rfl, rfl⟩
        clear bc
        go_wp2_with fail
        go_ret2
        exact .no hno.out rfl (.refl _ _)
      · have hyes := Lib.hid (show fitB (val zs) m = true from decide_eq_true (by rw [HB.out]; omega))
        have d3 : decide ((m : Int) < ((k : Int) + 7) / 8) = false := decide_eq_false (by omega)
        have vx := val_norm zs
        have VX := Lib.hid vx
        have nx := length_norm zs
        have nx2 := topz_le zs
        have hlx : (norm zs).length ≤ zs.length := by omega
        clear vx nx nx2
        go_enter Tryd.func59, Tryd.ntmps59
        go_wp2_with fail
        refine bc.mono ?_; rintro e w' ⟨rfl, rfl⟩
        clear bc
        go_wp2_with (at_make; refine wpList_make_blk _ rfl _ _ 22 rfl 5 .u8 1 Tryd.underlying22 info8 m _ _ rfl rfl rfl rfl (by omega) (by omega) ?_)
        intro w1 hk1 hs1 hb1
        have hc1 := hc.below hb1
        have vc := value_c a cap zs w1 hc1
        obtain ⟨g, hg⟩ : ∃ g, g = w.heap.size := ⟨_, rfl⟩
        rw [← hg] at hk1
        rw [← hg]
        have hge : w.heap.size ≤ g := by omega
        have fc := fill_c g m m _ a (norm zs).length (norm zs) w1 hk1 (by rw [List.length_replicate]) (Nat.le_refl _) (by omega)
          ((hc1.take (topz zs)).short) ux.norm (fun b o ha hp e => hc.apart (by omega) b o ha (by omega) (e.trans hg))
        rw [VX.out] at fc
        clear hc hc1 hk1 hg
        go_wp2_with fail
        refine vc.mono ?_; rintro e w' ⟨rfl, rfl⟩
        clear vc
        go_wp2_with fail
        refine fc.mono ?_; rintro e w3 ⟨rfl, hk3, hg3⟩
        clear fc
        have hb3 : Below w.heap.size w w3 := hb1.grown hg3 (by omega) (by simp; omega)
        go_wp2_with fail
        go_ret2
        refine ⟨_, by rw [hyes.out]; first | done | rfl, ?_, hb3⟩
        have := New.of_blk hk3 hge m m (Nat.le_refl _) (by rw [beN_len]; omega) (by omega)
        rw [List.take_of_length_le (by rw [beN_len]; omega)] at this
        unfold fixL
        rw [hyes.out, if_pos rfl]
        exact this

/-- How far a number is shifted. -/
def shK (k : Int) : Nat := (min (max k 0) 131072).toNat
theorem sub_tail (L : List Int) (q n : Nat) (h : L.length = q + n) : sub L q n = L.drop q := by
  rw [sub, List.take_of_length_le (by rw [List.length_drop]; omega)]
theorem take_zero {L : List Int} {q n : Nat} (h : ∀ j, j < q → nth L j = nth (List.replicate n 0) j) (hl : q ≤ L.length) (hn : q ≤ n) : L.take q = List.replicate q 0 := by
  apply List.ext_getElem
  · simp; omega
  · intro j h1 h2
    have h3 : j < q := by simp at h2; exact h2
    have e := h j h3
    rw [nth_get _ _ (by omega), nth_get _ _ (by simp; omega)] at e
    simpa using e

set_option maxHeartbeats 1000000 in
theorem Shl_c (a : Option Addr) (cap : Nat) (zs : List Int) (k : Int) (w : World) (hc : Sl .u32 w a cap zs) (ux : U32 zs) (hl : zs.length ≤ 35184372088000) (hk : -9223372036854775808 ≤ k ∧ k ≤ 9223372036854775807) :
    Calls Tryd.prog 116 #[.slice a zs.length cap, .int .i64 k] w (NatPost (val zs * 2 ^ shK k) w) := by
  obtain ⟨k1, k2⟩ := hk
  obtain ⟨s, hs⟩ : ∃ s, s = shK k := ⟨_, rfl⟩
  have hs0 : (s : Int) = min (max k 0) 131072 := by rw [hs]; unfold shK; omega
  have s1 : s ≤ 131072 := by omega
  rw [← hs]
  have HS := Lib.hid hs0
  clear hs
  have vc := value_c a cap zs w hc
  have VX := Lib.hid (val_norm zs)
  have hlx : (norm zs).length ≤ zs.length := by rw [length_norm]; exact topz_le zs
  obtain ⟨n, hn⟩ : ∃ n, n = (norm zs).length := ⟨_, rfl⟩
  have hX := (hc.take (topz zs)).short
  rw [show zs.take (topz zs) = norm zs from rfl] at hX
  have uX := ux.norm
  obtain ⟨X, hXe⟩ : ∃ X, X = norm zs := ⟨_, rfl⟩
  rw [← hXe] at hX uX VX vc hn hlx
  rw [← hn] at hX vc
  have HN := Lib.hid hn
  obtain ⟨q, hq⟩ : ∃ q, q = s / 32 := ⟨_, rfl⟩
  obtain ⟨r, hr⟩ : ∃ r, r = s % 32 := ⟨_, rfl⟩
  have hr2 : r < 32 := by omega
  have hsqr : s = 32 * q + r := by omega
  have HSQ := Lib.hid hsqr
  have Eq : Hid ((s : Int) / 32 = (q : Int)) := Lib.hid (by omega)
  have Er : Hid ((s : Int) % 32 = (r : Int)) := Lib.hid (by omega)
  have Q := Lib.hid hq.symm
  have hcut1 : (s : Int) / 32 ≤ (q : Int) + (n : Int) + 1 := by omega
  have hcut2 : s / 32 < q + n + 1 := by omega
  have hcut3 : ¬ q + n + 1 - s / 32 = 0 := by omega
  have hcut4 : ¬ q + n + 1 ≤ s / 32 := by omega
  have n1 : n ≤ 35184372088000 := by omega
  have q1 : q ≤ 4096 := by omega
  clear hs0 hn hXe hq hr hsqr
  go_enter Tryd.func116, Tryd.ntmps116
  go_wp2_with fail
  rw [← HS.out]
  refine vc.mono ?_; rintro e w' ⟨rfl, rfl⟩
  clear vc
  go_wp2_with (at_make; refine wpList_make_blk _ rfl _ _ 26 rfl 36 .u32 4 Tryd.underlying26 info32 (q + n + 1) _ _ rfl rfl (by rw [Eq.out]; omega) (by rw [Eq.out]; omega) (by omega) (by omega) ?_)
  intro w1 hk1 hs1 hb1
  have hX1 := hX.below hb1
  obtain ⟨g, hg⟩ : ∃ g, g = w.heap.size := ⟨_, rfl⟩
  rw [← hg] at hk1
  rw [← hg]
  have hge : w.heap.size ≤ g := by omega
  have uc := up_c g q (n + 1) (n + 1) r _ a n X w1 hk1 (.zeros (by omega) _) (by simp; omega) (Nat.le_refl _) hX1 uX (fun b o ha hp e => hX.apart (by omega) b o ha hp (e.trans hg)) (by simp; omega) hr2
  rw [← HN.out] at uc
  clear hX hX1 hk1 hg hs1 hc
  go_wp2_with fail
  rw [Er.out, Q.out, show q + n + 1 - q = n + 1 by omega]
  refine uc.mono ?_; rintro e w2 ⟨L, c, rfl, hk2, uL, lL, hother, hval, hg2⟩
  rw [List.length_replicate] at lL
  have hB2 : Below w.heap.size w w2 := hb1.grown hg2 hb1.size (by simp; omega)
  have lz : L.take q = List.replicate q 0 := take_zero (fun j hj => hother j (.inl hj)) (by omega) (by omega)
  have v1 : val X < R ^ n := by rw [HN.out]; exact val_lt uX
  have EL : Hid (val L = val zs * 2 ^ s) := Lib.hid (by
    rw [sub_tail L q (n + 1) (by omega), List.take_of_length_le (by rw [← HN.out]; omega)] at hval
    have hd := val_lt (uL.drop (by omega) q)
    rw [List.length_drop, lL, show q + n + 1 - q = n + 1 by omega] at hd
    have h2 : val X * 2 ^ r < R ^ (n + 1) := by
      rw [Rpow_succ, Nat.mul_comm R]
      exact Nat.mul_lt_mul_of_lt_of_le v1 (by rw [R, show (4294967296 : Nat) = 2 ^ 32 from rfl]; exact Nat.pow_le_pow_right (by decide) (by omega)) R_pos
    have e := no_carry hval h2
    rw [val_split L q (by omega), lz, val_zeros, Nat.zero_add, e, HSQ.out, Nat.pow_add, Rpow_two, VX.out, Nat.mul_left_comm])
  have LL := Lib.hid lL
  have SL : Hid (Sl .u32 w2 (some ⟨g, 0, none⟩) (q + n + 1) L) := Lib.hid (by have := hk2.sl_full (by rw [lL]; omega); rwa [lL] at this)
  clear uc hval hother lL lz hg2
  go_wp2_with fail
  rw [← LL.out]
  refine (proper_c _ _ L _ (by rw [LL.out]; exact SL.out)).mono ?_; rintro e w' ⟨rfl, rfl⟩
  go_wp2_with fail
  go_ret
  exact ⟨_, rfl, .of_blk hk2 hge uL EL.out (by rw [LL.out]; omega), hB2⟩

/-- How far a number is shifted down. -/
def shD (k : Int) : Nat := (max k 0).toNat

def DownPPost (g cap : Nat) (L : List Int) (s : Nat) (w : World) (e : Ending) (w' : World) : Prop :=
  ∃ L' : List Int, e = .returned (.tuple #[]) ∧ Pre w' g .u32 36 cap L' ∧ U32 L' ∧ L'.length = L.length ∧ val L' = val L / 2 ^ s ∧ w.grownBy w' (some g)

set_option maxHeartbeats 1000000 in
theorem downp_c (g cap s : Nat) (L : List Int) (w : World) (hB : Pre w g .u32 36 cap L) (uL : U32 L) (hcap : L.length ≤ cap) (hmax : L.length ≤ 4611686018427387904) (hs : s < 32) :
    Calls Tryd.prog 124 #[.slice (some ⟨g, 0, none⟩) L.length cap, .int .i64 (s : Int)] w (DownPPost g cap L s w) := by
  have hsi : (s : Int) < 32 := by omega
  have hsi0 : (0 : Int) ≤ (s : Int) := by omega
  go_enter Tryd.func124, Tryd.ntmps124
  go_wp2_with fail
  go_loopw [8] (fun t wr => ∃ (i : Nat) (L' : List Int), i ≤ L.length ∧ t = .int .i64 (i : Int) ∧ Pre wr g .u32 36 cap L' ∧ U32 L' ∧ L'.length = L.length ∧
      val L / 2 ^ s = val (L'.take i) + R ^ i * (val (L'.drop i) / 2 ^ s) ∧ w.grownBy wr (some g))
    (fun t _ => L.length - (intOf t).toNat)
  case atStart => exact ⟨0, L, by omega, rfl, hB, uL, rfl, by simp [val], rfl, rfl, rfl, Nat.le_refl _, fun _ _ _ => rfl⟩
  case round =>
    obtain ⟨i, L', hi, rfl, hB', uL', hlen, hval, hgr⟩ := hrel
    have HL := Lib.hid hlen
    have HV := Lib.hid hval
    clear hlen hval
    by_cases hlt : i < L.length
    · have hiL : i < L'.length := by have := HL.out; omega
      have hcl := hB'.cell i hiL
      have hfr := hB'.free i
      have hal := lb_lt uL' i
      have AC := Lib.hid (lb_cast uL' i)
      obtain ⟨a, ha⟩ : ∃ a, a = lb L' i := ⟨_, rfl⟩
      rw [← ha] at AC hal
      rw [← AC.out] at hcl
      have HA := Lib.hid ha
      obtain ⟨b, hb⟩ : ∃ b, b = lb L' (i + 1) := ⟨_, rfl⟩
      have hbl : b < R := by rw [hb]; exact lb_lt uL' (i + 1)
      obtain ⟨v, hv⟩ : ∃ v, v = (a + b * R) / 2 ^ s % R := ⟨_, rfl⟩
      have hvR : v < R := by rw [hv]; exact Nat.mod_lt _ R_pos
      have hab : a + b * R < 18446744073709551616 := by unfold R at *; omega
      have HV2 : Hid ((((a + b * R : Nat) : Int) / 2 ^ s) % 4294967296 = (v : Int)) := Lib.hid (by
        rw [hv, show ((2 : Int) ^ s) = ((2 ^ s : Nat) : Int) by rw [Int.natCast_pow]; rfl, ← Int.natCast_ediv]
        unfold R; omega)
      have fin : Hid (Pre (wr.setCell ⟨g, i, none⟩ (.int .u32 (v : Int))) g .u32 36 cap (L'.set i (v : Int)) ∧ U32 (L'.set i (v : Int)) ∧ (L'.set i (v : Int)).length = L.length ∧
          val L / 2 ^ s = val ((L'.set i (v : Int)).take (i + 1)) + R ^ (i + 1) * (val ((L'.set i (v : Int)).drop (i + 1)) / 2 ^ s) ∧ w.grownBy (wr.setCell ⟨g, i, none⟩ (.int .u32 (v : Int))) (some g)) := Lib.hid (by
        refine ⟨hB'.set _ _, uL'.set _ (by omega) (by unfold R at hvR; omega), by simpa using HL.out, ?_, grownBy_trans hgr (grownBy_set _ _ _)⟩
        rw [val_take_set_succ _ _ _ hiL, Int.toNat_natCast, List.drop_set_of_lt (by omega), HV.out, val_drop L' i hiL, ← HA.out,
          down_step (b0 := b) hs hal (by rw [hb]; exact val_drop_mod _ _ _ hs), ← hv, Nat.mul_add, Rpow_next, Nat.mul_assoc, Nat.add_assoc])
      have a4 : (a : Int) ≤ 4294967295 := by unfold R at hal; omega
      by_cases hin : i + 1 < L.length
      · have hcb := hB'.cell (i + 1) (by have := HL.out; omega)
        rw [← lb_cast uL' (i + 1), ← hb] at hcb
        have b4 : (b : Int) ≤ 4294967295 := by unfold R at hbl; omega
        have e0 : Hid (bits .or .u64 (a : Int) ((b : Int) * 4294967296) = ((a + b * R : Nat) : Int)) := Lib.hid (by
          have := u64_or_nat a (b * 4294967296) (by unfold R at hal; omega) (by unfold R at hbl; omega)
          rw [show ((b : Int) * 4294967296) = ((b * 4294967296 : Nat) : Int) by omega, this, Nat.or_comm, nat_join 32 (b * 4294967296) a (by omega) (by unfold R at hal; omega)]
          unfold R; omega)
        have hin2 : (i : Int) + 1 < (L.length : Int) := by omega
        clear hb hbl hv hvR ha hal hiL
        go_wp2_with fail
        go_roundw
        case rel =>
          obtain ⟨f1, f2, f3, f4, f5⟩ := fin.out
          rw [e0.out, HV2.out]
          exact ⟨i + 1, _, by omega, by go_num, f1, f2, f3, f4, f5⟩
        case measure => simp [intOf]; omega
      · have hb0 : b = 0 := by rw [hb, lb, nth_out _ _ (by have := HL.out; omega)]; rfl
        have e0 : Hid ((((a : Nat) : Int) / 2 ^ s) % 4294967296 = (v : Int)) := Lib.hid (by have := HV2.out; rw [hb0] at this; simpa using this)
        have hin2 : ¬ (i : Int) + 1 < (L.length : Int) := by omega
        clear hb hb0 hbl hv hvR ha hal hiL hab
        go_wp2_with fail
        go_roundw
        case rel =>
          obtain ⟨f1, f2, f3, f4, f5⟩ := fin.out
          rw [e0.out]
          exact ⟨i + 1, _, by omega, by go_num, f1, f2, f3, f4, f5⟩
        case measure => simp [intOf]; omega
    · obtain rfl : i = L.length := by omega
      go_wp2_with fail
      go_end0
      refine ⟨L', rfl, hB', uL', HL.out, ?_, hgr⟩
      have := HV.out
      rw [List.take_of_length_le (by rw [HL.out]; omega), List.drop_of_length_le (by rw [HL.out]; omega)] at this
      rw [this]; simp [val]

theorem NatRes.of_pre {B g n cap : Nat} {w : World} {L : List Int} (h : Pre w g .u32 36 cap L) (hB : B ≤ g) (hu : U32 L) (hv : val L = n) : NatRes B w (.slice (some ⟨g, 0, none⟩) (norm L).length (norm L).length) n := by
  have h1 := topz_le L
  obtain ⟨cs, hh, h2, h3, h4, h5⟩ := h
  refine ⟨norm L, ?_, Canon.norm L, hu.norm, by rw [val_norm, hv]⟩
  refine .inr ⟨g, (norm L).length, cs, rfl, hB, hh, Nat.le_refl _, by rw [length_norm]; omega, by rw [length_norm]; omega, ?_⟩
  rw [length_norm]
  have e : norm L = L.take (topz L) := rfl
  rw [e, List.map_take, ← h5, List.take_take, Nat.min_eq_left h1]
theorem max0 (k : Int) : max k 0 = ((shD k : Nat) : Int) := by unfold shD; omega
set_option maxHeartbeats 1000000 in
theorem Shr_c (a : Option Addr) (cap : Nat) (zs : List Int) (k : Int) (w : World) (hc : Sl .u32 w a cap zs) (ux : U32 zs) (hl : zs.length ≤ 35184372088000) (hk : -9223372036854775808 ≤ k ∧ k ≤ 9223372036854775807) :
    Calls Tryd.prog 103 #[.slice a zs.length cap, .int .i64 k] w (NatPost (val zs / 2 ^ shD k) w) := by
  obtain ⟨k1, k2⟩ := hk
  have hs0 := max0 k
  obtain ⟨s, hs⟩ : ∃ s, s = shD k := ⟨_, rfl⟩
  rw [← hs] at hs0 ⊢
  have s1 : s ≤ 9223372036854775807 := by omega
  have vc := value_c a cap zs w hc
  have VX := Lib.hid (val_norm zs)
  have hlx : (norm zs).length ≤ zs.length := by rw [length_norm]; exact topz_le zs
  obtain ⟨n, hn⟩ : ∃ n, n = (norm zs).length := ⟨_, rfl⟩
  have hX := (hc.take (topz zs)).short
  rw [show zs.take (topz zs) = norm zs from rfl] at hX
  have uX := ux.norm
  obtain ⟨X, hXe⟩ : ∃ X, X = norm zs := ⟨_, rfl⟩
  rw [← hXe] at hX uX VX vc hn hlx
  rw [← hn] at hX vc
  have HN := Lib.hid hn
  have n1 : n ≤ 35184372088000 := by omega
  obtain ⟨q, hq⟩ : ∃ q, q = s / 32 := ⟨_, rfl⟩
  have Eq : (s : Int) / 32 = (q : Int) := by omega
  by_cases hlt : q < n
  · obtain ⟨b, off, rfl, hcc⟩ := hX.cells (by omega)
    obtain ⟨r, hr⟩ : ∃ r, r = s % 32 := ⟨_, rfl⟩
    have hr2 : r < 32 := by omega
    have HSQ : Hid (s = 32 * q + r) := Lib.hid (by omega)
    have Er : (s : Int) % 32 = (r : Int) := by omega
    have hd : decide ((n : Int) ≤ (q : Int)) = false := decide_eq_false (by omega)
    have hd2 : (q : Int) < (n : Int) := by omega
    have hd3 : (q : Int) ≤ (n : Int) := by omega
    have hd4 : q ≤ n := by omega
    have hd5 : ¬ n - q = 0 := by omega
    have hd6 : ¬ n ≤ q := by omega
    have hD : Cells .u32 w (some ⟨b, off + q, none⟩) (X.drop q) := fun _ => ⟨b, off + q, rfl, fun j hj => by
      rw [List.length_drop] at hj
      have := hcc (q + j) (by omega)
      rw [nth_drop, Nat.add_assoc]
      exact this⟩
    have lD : Hid ((X.drop q).length = n - q) := Lib.hid (by rw [List.length_drop, HN.out])
    have uD := uX.drop (by omega) q
    have vD : Hid (val zs / 2 ^ s = val (X.drop q) / 2 ^ r) := Lib.hid (by
      have e := val_split X q (by omega)
      have h1 := val_take_lt uX q (by omega)
      rw [HSQ.out, Nat.pow_add, ← Nat.div_div_eq_div_mul, ← Rpow_two, ← VX.out, e, Nat.add_mul_div_left _ _ (Rpow_pos _), Nat.div_eq_of_lt h1, Nat.zero_add])
    obtain ⟨D, hDe⟩ : ∃ D, D = X.drop q := ⟨_, rfl⟩
    rw [← hDe] at hD lD uD vD
    have hD0 : Hid (0 < D.length) := Lib.hid (by rw [lD.out]; omega)
    clear hn hXe hq hs hr hcc hX hDe
    go_enter Tryd.func103, Tryd.ntmps103
    go_wp2_with fail
    refine vc.mono ?_; rintro e w' ⟨rfl, rfl⟩
    clear vc
    go_wp2_with (at_builtin; refine wpList_append_new _ rfl _ _ 26 rfl w.heap.size 36 .u32 4 Tryd.underlying26 info32 _ [] rfl (New.nil _ _ _ _) _ _ (n - q) D rfl lD.out.symm hD (by rw [lD.out]; simp; omega) (by rw [lD.out]; simp; omega) (Nat.le_refl _) ?_)
    intro v' w1 hv hg1 ho1
    have hb1 : Below w.heap.size w w1 := (Below.refl _ _).grown hg1 (Nat.le_refl _) (by simp [Value.ownBlock])
    obtain ⟨g, cp, rfl, hge, hp⟩ := hv.pre hD0.out
    have dc := downp_c g cp r D w1 hp uD hp.le (by rw [lD.out]; omega) hr2
    rw [lD.out] at dc ⊢
    clear hv hg1 ho1 hp
    go_wp2_with fail
    refine dc.mono ?_; rintro e w2 ⟨L, rfl, hp2, uL, lL, vL, hg2⟩
    have hB2 : Below w.heap.size w w2 := hb1.grown hg2 hb1.size (by simp; omega)
    have VL := Lib.hid vL
    have LL : Hid (L.length = n - q) := Lib.hid (by rw [lL, lD.out])
    have pc := proper_c (some ⟨g, 0, none⟩) cp L w2 hp2.sl
    rw [LL.out] at pc
    clear dc vL lL hg2
    go_wp2_with fail
    refine pc.mono ?_; rintro e w' ⟨rfl, rfl⟩
    go_wp2_with fail
    go_ret
    exact ⟨_, rfl, .of_pre hp2 hge uL (by rw [VL.out, vD.out]), hB2⟩
  · have h0 : Hid (val zs / 2 ^ s = 0) := Lib.hid (by
      apply Nat.div_eq_of_lt
      rw [← VX.out]
      refine Nat.lt_of_lt_of_le (val_lt uX) ?_
      rw [← hn, Rpow_two]
      exact Nat.pow_le_pow_right (by decide) (by omega))
    have hd : decide ((n : Int) ≤ (q : Int)) = true := decide_eq_true (by omega)
    have hd2 : (n : Int) ≤ (q : Int) := by omega
    clear hn hXe hq hs
    go_enter Tryd.func103, Tryd.ntmps103
    go_wp2_with fail
    refine vc.mono ?_; rintro e w' ⟨rfl, rfl⟩
    go_wp2_with fail
    go_ret
    exact ⟨_, rfl, ⟨[], New.nil _ _ _ _, Canon.nil, .nil (by omega), by rw [h0.out]; rfl⟩, .refl _ _⟩
end Go.Proofs.YtlolkighnnedfaaDoor
/- Contracts of package nat in handier words. -/
set_option linter.unusedVariables false
set_option linter.unusedSimpArgs false
namespace Go.Proofs.YtlolkighnnedfaaDoor
open Go.RowKit Go.Sg
theorem Cmp_eq (a a' : Option Addr) (cap cap' : Nat) (zs ys : List Int) (w : World) (hc : Sl .u32 w a cap zs) (hc' : Sl .u32 w a' cap' ys) (ux : U32 zs) (uy : U32 ys) (h : val zs = val ys) :
    Calls Tryd.prog 25 #[.slice a zs.length cap, .slice a' ys.length cap'] w (CmpPost 0 w) := by
  have h2 := Cmp_c a a' cap cap' zs ys w hc hc' ux uy
  rwa [cmpI_eq h] at h2
theorem FromBytes_v (a : Option Addr) (cap n : Nat) (bs : List Int) (w : World) (hc : Sl .u8 w a cap bs) (ub : U8 bs) (hl : bs.length ≤ 140737488355328) (hv : bval bs = n) : Calls Tryd.prog 68 #[.slice a bs.length cap] w (NatPost n w) := by
  have h := FromBytes_c a cap bs w hc ub hl
  rwa [hv] at h
theorem Shl_k (a : Option Addr) (cap k : Nat) (zs : List Int) (w : World) (hc : Sl .u32 w a cap zs) (ux : U32 zs) (hl : zs.length ≤ 35184372088000) (hk : k ≤ 131072) : Calls Tryd.prog 116 #[.slice a zs.length cap, .int .i64 (k : Int)] w (NatPost (val zs * 2 ^ k) w) := by
  have h := Shl_c a cap zs (k : Int) w hc ux hl ⟨by omega, by omega⟩
  rwa [show shK (k : Int) = k by unfold shK; omega] at h
theorem Shr_k (a : Option Addr) (cap k : Nat) (zs : List Int) (w : World) (hc : Sl .u32 w a cap zs) (ux : U32 zs) (hl : zs.length ≤ 35184372088000) (hk : k ≤ 9223372036854775807) : Calls Tryd.prog 103 #[.slice a zs.length cap, .int .i64 (k : Int)] w (NatPost (val zs / 2 ^ k) w) := by
  have h := Shr_c a cap zs (k : Int) w hc ux hl ⟨by omega, by omega⟩
  rwa [show shD (k : Int) = k by unfold shD; omega] at h
theorem bit_top {n : Nat} (h : n ≠ 0) : bitB n ((bl n - 1 : Nat) : Int) = true := by
  have h1 := bl_le h
  have h2 := lt_bl n
  have h3 := bl_pos h
  refine decide_eq_true ⟨by omega, ?_⟩
  rw [Int.toNat_natCast]
  have e : 2 ^ bl n = 2 ^ (bl n - 1) * 2 := by rw [← Nat.pow_succ]; congr 1; omega
  have : n / 2 ^ (bl n - 1) = 1 := by
    rw [Nat.div_eq_iff (Nat.pow_pos (by decide))]
    omega
  rw [this]
theorem bit_off (n : Nat) : bitB n ((bl n : Nat) : Int) = false := by
  refine decide_eq_false fun h => ?_
  rw [Int.toNat_natCast, Nat.div_eq_of_lt (lt_bl n)] at h
  omega
theorem bit_neg {n : Nat} {i : Int} (h : i < 0) : bitB n i = false := decide_eq_false fun h2 => by omega
theorem bit_shr (n i : Nat) : bitB n (i : Int) = decide (n / 2 ^ i % 2 = 1) := by
  unfold bitB
  rw [Int.toNat_natCast]
  refine decide_eq_decide.2 ⟨fun h => h.2, fun h => ⟨by omega, h⟩⟩
theorem val_odd {zs : List Int} (u : U32 zs) (h : 0 < zs.length) : val zs % 2 = lb zs 0 % 2 := by
  have e := val_drop zs 0 h
  rw [List.drop_zero] at e
  rw [e, R]
  omega
end Go.Proofs.YtlolkighnnedfaaDoor
/- Bytes of a number, more of them. No program in sight. -/
set_option linter.unusedVariables false
set_option linter.unusedSimpArgs false
namespace Go.Sg
open Go.RowKit
theorem byt_down {n k : Nat} (h : n < 256 ^ (k + 1)) (h0 : byt n k = 0) : n < 256 ^ k := by
  have h1 : n / 256 ^ k < 256 := by rw [Nat.div_lt_iff_lt_mul (Nat.pow_pos (by decide))]; rwa [Nat.pow_succ, Nat.mul_comm] at h
  unfold byt at h0
  rw [Nat.mod_eq_of_lt h1] at h0
  rcases Nat.div_eq_zero_iff.1 h0 with h2 | h2
  · exact absurd h2 (Nat.ne_of_gt (Nat.pow_pos (by decide)))
  · exact h2
theorem byt_stop {n k : Nat} (h : n < 256 ^ (k + 1)) (h0 : byt n k ≠ 0) : blen n = k + 1 := by
  have h1 : 256 ^ k ≤ n := by
    refine Nat.not_lt.1 fun h2 => h0 ?_
    unfold byt
    rw [Nat.div_eq_of_lt h2]
  have e : ∀ m, 256 ^ m = 2 ^ (8 * m) := fun m => by rw [show (256 : Nat) = 2 ^ 8 from rfl, ← Nat.pow_mul]
  rw [e] at h h1
  have h2 := (bl_le_iff n (8 * (k + 1))).2 h
  have h3 : ¬ bl n ≤ 8 * k := fun h4 => by have := (bl_le_iff n (8 * k)).1 h4; omega
  unfold blen
  omega
theorem blen_zero {n : Nat} (h : n < 256 ^ 0) : blen n = 0 := by
  have : n = 0 := by simpa using h
  subst this
  rfl
theorem beN_take {n len i : Nat} (h : i < len) : (beN n len).take (i + 1) = (beN n len).take i ++ [((byt n (len - 1 - i) : Nat) : Int)] := by
  rw [take_succ_nth _ _ (by rw [beN_len]; exact h), nth_beN h]
theorem beN_more {n len j : Nat} (h : n < 256 ^ len) : beN n (j + len) = List.replicate j 0 ++ beN n len := by
  apply List.ext_getElem
  · simp [beN_len]
  · intro i h1 h2
    rw [beN_len] at h1
    have e := nth_beN (n := n) h1
    rw [nth_get _ _ (by rw [beN_len]; exact h1)] at e
    rw [e]
    by_cases hi : i < j
    · rw [List.getElem_append_left (by rw [List.length_replicate]; exact hi), List.getElem_replicate]
      have : byt n (j + len - 1 - i) = 0 := by
        unfold byt
        rw [Nat.div_eq_of_lt (Nat.lt_of_lt_of_le h (Nat.pow_le_pow_right (by decide) (by omega)))]
      rw [this]; rfl
    · rw [List.getElem_append_right (by rw [List.length_replicate]; omega)]
      simp only [List.length_replicate]
      have e2 := nth_beN (n := n) (len := len) (i := i - j) (by omega)
      rw [nth_get _ _ (by rw [beN_len]; omega)] at e2
      rw [e2, show j + len - 1 - i = len - 1 - (i - j) by omega]
end Go.Sg
