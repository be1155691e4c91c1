/- nat.long, by its contract. -/
import Derived.Test.YtnlmkikaaifcmaaNatH
import Derived.Test.YtnlmkikaaifcmaaNumD
import Derived.WalkMore
set_option linter.unusedVariables false
set_option linter.unusedSimpArgs false
namespace Go.Proofs.Ytnlmkikaaifcmaa
open Go.RowKit Go.Sg

theorem _root_.Go.Sg.Blk.window {w : World} {g : Nat} {k : IntKind} {E : TypeId} {L : List Int} (h : Blk w g k E L) (off n cap : Nat) (hl : off + n ≤ L.length) (hc : n ≤ cap) (hm : cap ≤ 9223372036854775807) : Sl k w (some ⟨g, off, none⟩) cap (sub L off n) :=
  ⟨by rw [sub_len _ _ _ hl]; exact hc, hm, fun _ => ⟨g, off, rfl, fun j hj => by rw [sub_len _ _ _ hl] at hj; rw [nth_sub _ _ _ _ hj]; exact h.cell _ (by omega)⟩⟩

def LongPost (X Y : List Int) (w : World) (e : Ending) (w' : World) : Prop :=
  ∃ (gq gu : Nat) (Q U : List Int), e = .returned (.tuple #[.slice (some ⟨gq, 0, none⟩) Q.length Q.length, .slice (some ⟨gu, 0, none⟩) Y.length (X.length + 1)]) ∧ w.heap.size ≤ gq ∧ w.heap.size ≤ gu ∧ gq ≠ gu ∧
    Blk w' gq .u32 25 Q ∧ Blk w' gu .u32 25 U ∧ U32 Q ∧ U32 U ∧ Q.length ≤ X.length ∧ U.length = X.length + 1 ∧ val Q = val X / val Y ∧ val (U.take Y.length) = val X % val Y ∧ Below w.heap.size w w'

/-- The state at the head of the great loop. -/
def LongRel (N gv gu gq gp k m : Nat) (V : List Int) (w : World) (j : Nat) (wr : World) : Prop :=
  ∃ U Q P : List Int, Blk wr gv .u32 25 V ∧ Blk wr gu .u32 25 U ∧ Blk wr gq .u32 25 Q ∧ Blk wr gp .u32 25 P ∧ U32 U ∧ U32 Q ∧ U32 P ∧
    U.length = m + 1 ∧ Q.length = m - (k + 2) + 1 ∧ P.length = k + 3 ∧ LongU N (val V) j U Q ∧ Below w.heap.size w wr

set_option maxHeartbeats 4000000 in
set_option maxRecDepth 20000 in
theorem nlong_c (ax ay : Option Addr) (cx cy k m : Nat) (X Y : List Int) (w : World) (hx : Sl .u32 w ax cx X) (hy : Sl .u32 w ay cy Y) (ux : U32 X) (uy : U32 Y) (hX : X.length = m) (hY : Y.length = k + 2) (hkm : k + 2 ≤ m) (hm : m ≤ 35184372088832) (hy1 : lb Y (k + 1) ≠ 0) :
    Calls Try.prog 32 #[.slice ax m cx, .slice ay (k + 2) cy] w (LongPost X Y w) := by
  obtain ⟨b', off', rfl, hcc'⟩ := hy.cells (by omega)
  have d1 := hcc' (k + 1) (by omega)
  rw [← lb_cast uy] at d1
  have l1 := lb_lt uy (k + 1)
  have TN := Lib.hid (top_norm uy hY hy1)
  obtain ⟨y1, hyd⟩ : ∃ y1, y1 = lb Y (k + 1) := ⟨_, rfl⟩
  rw [← hyd] at d1 l1 TN hy1
  have l2 : (y1 : Int) ≤ 4294967295 := by unfold R at l1; omega
  have hbl : bl y1 ≤ 32 := (bl_le_iff _ _).2 (by unfold R at l1; omega)
  obtain ⟨s, hs⟩ : ∃ s, s = 32 - bl y1 := ⟨_, rfl⟩
  have hs32 : s < 32 := by have := bl_pos hy1; omega
  have es : Hid ((32 : Int) - (bl ((y1 : Int).toNat) : Int) = (s : Int)) := Lib.hid (by rw [Int.toNat_natCast]; omega)
  rw [← hs] at TN
  have HY1 := Lib.hid hyd
  clear hcc' hyd hbl hs l1
  go_enter Try.func32, Try.ntmps32
  go_wp2_with fail
  refine (LeadingZeros32_c _ _ (by omega) l2).mono ?_; rintro e w' ⟨rfl, rfl⟩
  rw [es.out]
  go_wp2_with (at_make; refine wpList_make_blk _ rfl _ _ 22 rfl 25 .u32 4 Try.underlying22 info32 (k + 2) _ _ rfl rfl rfl rfl (by omega) (by omega) ?_)
  intro w1 hk1 hs1 hb1
  obtain ⟨gv, hgv⟩ : ∃ g, g = w.heap.size := ⟨_, rfl⟩
  rw [← hgv] at hk1 ⊢
  have u1 := up_c gv 0 (k + 2) (k + 2) s _ _ cy Y w1 hk1 (.zeros (by omega) _) (by simp) (Nat.le_refl _) (hy.below hb1) uy (fun b o h1 h2 => by rw [hgv]; exact hy.apart (Nat.le_refl _) b o h1 h2) (by simp; omega) hs32
  rw [hY] at u1
  have HGV := Lib.hid hgv
  have HS1 := Lib.hid hs1
  clear hgv hs1 es
  go_wp2_with fail
  refine u1.mono ?_; rintro e w2 ⟨V, c, rfl, hV, uV, lV, _, hval, hg2⟩
  rw [List.length_replicate] at lV
  have hB2 : Below w.heap.size w w2 := hb1.grown hg2 hb1.size (by intro g h; have := HGV.out; simp at h; omega)
  have EV : Hid (val V = val Y * 2 ^ s) := Lib.hid (by
    rw [sub_zero_off, List.take_of_length_le (by omega), List.take_of_length_le (by omega)] at hval
    exact no_carry hval TN.out.1)
  have HLV := Lib.hid lV
  have hx2 := hx.below hB2
  have gv2 := hV.lt
  clear hval hg2 u1 hk1 lV
  go_wp2_with (at_make; refine wpList_make_blk _ rfl _ _ 22 rfl 25 .u32 4 Try.underlying22 info32 (m + 1) _ _ rfl rfl (by omega) (by omega) (by omega) (by omega) ?_)
  intro w3 hk3 hs3 hb3
  obtain ⟨gu, hgu⟩ : ∃ g, g = w2.heap.size := ⟨_, rfl⟩
  rw [← hgu] at hk3 ⊢
  have hapx : ∀ b o, ax = some ⟨b, o, none⟩ → 0 < X.length → b ≠ gu := fun b o h1 h2 => by rw [hgu]; exact hx2.apart (Nat.le_refl _) b o h1 h2
  have u2 := up_c gu 0 (m + 1) (m + 1) s _ _ cx X w3 hk3 (.zeros (by omega) _) (by simp) (Nat.le_refl _) (hx2.below hb3) ux hapx (by simp; omega) hs32
  rw [hX] at u2
  have hguv : gv < gu := by omega
  have hV3 := hV.below hb3 gv2
  have hB3 := hB2.trans (hb3.mono hB2.size)
  have HGU := Lib.hid hgu
  have hs3' : gu < w3.heap.size := by omega
  clear hgu hs3 hb3 hV hx2 gv2 hapx
  go_wp2_with fail
  refine u2.mono ?_; rintro e w4 ⟨U, c, rfl, hU, uU, lU, _, hval, hg4⟩
  rw [List.length_replicate] at lU
  have hV4 := hV3.grown hg4 (by simp; omega)
  have hB4 : Below w.heap.size w w4 := hB3.grown hg4 hB3.size (by intro g h; have := HGU.out; have := hB2.size; simp at h; omega)
  have EU : Hid (val U = val X * 2 ^ s) := Lib.hid (by
    rw [sub_zero_off, List.take_of_length_le (by omega), List.take_of_length_le (by omega)] at hval
    refine no_carry hval ?_
    have h1 := val_lt ux
    rw [hX] at h1
    have h2 : 2 ^ s < R := Nat.lt_of_lt_of_le (Nat.pow_lt_pow_right (by decide) hs32) (by decide)
    rw [Nat.pow_succ]
    exact Nat.lt_of_le_of_lt (Nat.mul_le_mul_right _ (Nat.le_of_lt h1)) (Nat.mul_lt_mul_of_pos_left h2 (Rpow_pos m)))
  have HLU := Lib.hid lU
  have gu4 := hU.lt
  clear hval hg4 u2 hk3 lU hV3 hB3
  have hmk : ((m : Int) - ((k : Int) + 2) + 1) = ((m - (k + 2) + 1 : Nat) : Int) := by omega
  obtain ⟨ql, hql⟩ : ∃ ql, ql = m - (k + 2) + 1 := ⟨_, rfl⟩
  rw [← hql] at hmk
  have HMK := Lib.hid hmk
  have HQL := Lib.hid hql
  have hq35 : ql ≤ 35184372088832 := by omega
  have hq0 : 0 < ql := by omega
  clear hmk hql
  go_wp2_with (at_make; refine wpList_make_blk _ rfl _ _ 22 rfl 25 .u32 4 Try.underlying22 info32 ql _ _ rfl rfl HMK.out HMK.out (by omega) (by omega) ?_)
  intro w5 hk5 hs5 hb5
  obtain ⟨gq, hgq⟩ : ∃ g, g = w4.heap.size := ⟨_, rfl⟩
  rw [← hgq] at hk5 ⊢
  have hV5 := hV4.below hb5 (by omega)
  have hU5 := hU.below hb5 gu4
  have hB5 := hB4.trans (hb5.mono hB4.size)
  have hguq : gu < gq := by omega
  have gq5 := hk5.lt
  clear hgq hs5 hb5 hV4 hU hB4 gu4
  go_wp2_with (at_make; refine wpList_make_blk _ rfl _ _ 22 rfl 25 .u32 4 Try.underlying22 info32 (k + 3) _ _ rfl rfl (by omega) (by omega) (by omega) (by omega) ?_)
  intro w6 hk6 hs6 hb6
  obtain ⟨gp, hgp⟩ : ∃ g, g = w5.heap.size := ⟨_, rfl⟩
  rw [← hgp] at hk6 ⊢
  have hgqp : gq < gp := by omega
  have wgv : Hid (w.heap.size ≤ gv) := Lib.hid (by rw [HGV.out]; omega)
  have R0 : LongRel (val X * 2 ^ s) gv gu gq gp k m V w ql w6 := ⟨U, _, _, hV5.below hb6 (by omega), hU5.below hb6 (by omega), hk5.below hb6 (by omega), hk6, uU, .zeros (by omega) _, .zeros (by omega) _, HLU.out, by rw [HQL.out]; simp, by simp,
    by rw [EV.out]; exact LongU.start (by rw [← hX]; exact val_lt ux) TN.out.2 hkm EU.out ql HQL.out (List.drop_of_length_le (by simp)), hB5.trans (hb6.mono hB5.size)⟩
  clear hgp hs6 hb6 hV5 hU5 hk5 hB5 gq5 hk6
  go_wp2_with fail
  go_loopw [12] (fun t wr => ∃ j : Nat, j ≤ ql ∧ t = .int .i64 ((j : Int) - 1) ∧ LongRel (val X * 2 ^ s) gv gu gq gp k m V w j wr)
    (fun t _ => (intOf t + 1).toNat)
  case atStart => exact ⟨ql, Nat.le_refl _, by go_num, R0⟩
  case round =>
    clear R0
    obtain ⟨j, hj, rfl, U, Q, P, hV, hU, hQ, hP, uU, uQ, uP, lU, lQ, lP, hL, hB⟩ := hrel
    have HL := Lib.hid hL
    have LU := Lib.hid lU
    have LQ := Lib.hid lQ
    have LP := Lib.hid lP
    clear hL lU lQ lP
    by_cases h0 : 0 < j
    · obtain ⟨i, rfl⟩ : ∃ i, j = i + 1 := ⟨j - 1, by omega⟩
      have hj3 : (((i + 1 : Nat) : Int) - 1) = (i : Int) := by omega
      have hin : i < ql := by omega
      rw [hj3]
      have HJ := Lib.hid hj3
      clear hj3 h0
      have WIN := Lib.hid (HL.out.window (n := k + 2) (by rw [EV.out]; exact TN.out.1) (by rw [LU.out]; have := HQL.out; omega))
      have hil : i + (k + 3) ≤ U.length := by rw [LU.out]; have := HQL.out; omega
      have hwin := hU.window i (k + 3) (m + 1 - i) hil (by have := LU.out; omega) (by omega)
      have hVs : Sl .u32 wr (some ⟨gv, 0, none⟩) (k + 2) V := by
        have := hV.sl_full (by rw [HLV.out]; omega)
        rwa [HLV.out] at this
      have eLW := sub_len U i (k + 3) hil
      have TP := Lib.hid (top_ne uV HLV.out (by rw [EV.out]; exact Nat.le_trans TN.out.2 (Nat.le_mul_of_pos_right _ (Nat.two_pow_pos s))))
      have ce := estimate_c _ _ _ _ k _ V wr hwin hVs (uU.sub i (k + 3)) uV eLW HLV.out TP.out WIN.out.2
      have hil2 : i + (k + 3) ≤ m + 1 := by have := LU.out; omega
      have hil3 : (i : Int) + ((k : Int) + 2) + 1 ≤ (m : Int) + 1 := by omega
      have HIL := Lib.hid hil
      have ew1 : Hid (i + (k + 2) + 1 - i = k + 3) := Lib.hid (by omega)
      clear hwin hVs eLW hil
      go_wp2_with fail
      go_step3
      go_wp2_with fail
      rw [ew1.out]
      refine ce.mono ?_; rintro e w2 ⟨d, rfl, hqd, hdR, hdr⟩
      have hV2 := hV.below hdr.below hV.lt
      have hU2 := hU.below hdr.below hU.lt
      have hQ2 := hQ.below hdr.below hQ.lt
      have hP2 := hP.below hdr.below hP.lt
      have hB2 := hB.trans (hdr.belowB)
      have HQD := Lib.hid hqd
      clear hV hU hQ hP hB hdr ce hqd
      go_wp2_with fail
      go_step3
      go_wp2_with fail
      go_loopw [13] (fun dv wx => ∃ (d : Nat) (P : List Int), dv = .int .u64 (d : Int) ∧ val (sub U i (k + 3)) / val V ≤ d ∧ d < R ∧ Blk wx gp .u32 25 P ∧ U32 P ∧ P.length = k + 3 ∧ w2.grownBy wx (some gp))
        (fun dv _ => estMu dv)
      case atStart => exact ⟨d, P, rfl, HQD.out, hdR, hP2, uP, LP.out, rfl, rfl, rfl, Nat.le_refl _, fun _ _ _ => rfl⟩
      case round =>
        clear hP2 uP LP HQD hdR
        obtain ⟨d, P, rfl, hqd, hdR, hP, uP, lP, hg⟩ := hrel
        have HQD := Lib.hid hqd
        have LP := Lib.hid lP
        have hV := hV2.grown hg (by simp; omega)
        have hU := hU2.grown hg (by simp; omega)
        clear hqd lP
        go_wp2_with fail
        go_loopw [14, 68] (fun cv t wy => ∃ (x c : Nat) (P : List Int), x ≤ k + 2 ∧ t = .int .i64 (x : Int) ∧ cv = .int .u64 (c : Int) ∧ c < R ∧ Blk wy gp .u32 25 P ∧ U32 P ∧ P.length = k + 3 ∧
            val (P.take x) + R ^ x * c = d * val (V.take x) ∧ w2.grownBy wy (some gp))
          (fun _ t _ => k + 2 - (intOf t).toNat)
        case atStart => exact ⟨0, 0, P, by omega, rfl, rfl, by decide, hP, uP, LP.out, by simp [val], hg⟩
        case round =>
          clear hP uP LP hg hV hU
          obtain ⟨x, c, P, hx, rfl, rfl, hc, hP, uP, lP, hval, hg⟩ := hrel
          have LP := Lib.hid lP
          have HV := Lib.hid hval
          have hV := hV2.grown hg (by simp; omega)
          have hcR : c ≤ 4294967295 := by unfold R at hc; omega
          clear hval lP
          by_cases hxk : x < k + 2
          · have hcv := hV.cell x (by rw [HLV.out]; omega)
            have hcp := hP.cell x (by rw [LP.out]; omega)
            have hfp := hP.free x
            rw [← lb_cast uV] at hcv
            rw [← lb_cast uP] at hcp
            have hll := lb_lt uV x
            have hsq := mul_lt_sq hdR hll
            obtain ⟨l, hl⟩ : ∃ l, l = lb V x := ⟨_, rfl⟩
            rw [← hl] at hcv hll hsq
            have HL2 := Lib.hid hl
            obtain ⟨pq, hpq⟩ : ∃ pq, pq = d * l := ⟨_, rfl⟩
            have hpq2 : ((d : Int) * (l : Int)) = (pq : Int) := by rw [hpq, Int.natCast_mul]
            rw [← hpq] at hsq
            have HPQ := Lib.hid hpq
            have hl4 : (l : Int) ≤ 4294967295 := by unfold R at hll; omega
            have hd4 : (d : Int) ≤ 4294967295 := by unfold R at hdR; omega
            have s0 : Hid (((c : Int) + (pq : Int)) % 4294967296 = (((c + pq) % R : Nat) : Int)) := Lib.hid (by unfold R; omega)
            have s1 : Hid (((c : Int) + (pq : Int)) / 4294967296 = (((c + pq) / R : Nat) : Int)) := Lib.hid (by unfold R; omega)
            have fin : Hid ((c + pq) / R < R ∧ U32 (P.set x (((c + pq) % R : Nat) : Int)) ∧ (P.set x (((c + pq) % R : Nat) : Int)).length = k + 3 ∧
                val ((P.set x (((c + pq) % R : Nat) : Int)).take (x + 1)) + R ^ (x + 1) * ((c + pq) / R) = d * val (V.take (x + 1))) := Lib.hid (by
              refine ⟨by unfold R; omega, uP.set _ (by omega) (by unfold R; omega), by simpa using LP.out, ?_⟩
              rw [val_take_set_succ _ _ _ (by rw [LP.out]; omega), Int.toNat_natCast, Rpow_next, Nat.add_assoc, column, val_take_next, ← HL2.out, Nat.mul_add d, ← HV.out, HPQ.out, Nat.mul_add, Nat.mul_left_comm d]
              omega)
            clear hl hpq hll hc
            go_wp2_with fail
            go_roundw
            case rel =>
              obtain ⟨f1, f2, f3, f4⟩ := fin.out
              exact ⟨x + 1, (c + pq) / R, _, by omega, by go_num, by rw [s1.out], f1, by rw [s0.out]; exact hP.set _ _, f2, f3, f4, grownBy_trans hg (grownBy_set _ _ _)⟩
            case measure => simp [intOf]; omega
          · obtain rfl : x = k + 2 := by omega
            have hcp := hP.cell (k + 2) (by rw [LP.out]; omega)
            have hfp := hP.free (k + 2)
            have hcnm : (c : Int) % 4294967296 = c := by omega
            obtain ⟨P', hP'd⟩ : ∃ P', P' = P.set (k + 2) (c : Int) := ⟨_, rfl⟩
            obtain ⟨wz, hwz⟩ : ∃ wz, wz = wr.setCell ⟨gp, k + 2, none⟩ (.int .u32 (c : Int)) := ⟨_, rfl⟩
            have hgz : w2.grownBy wz (some gp) := by rw [hwz]; exact grownBy_trans hg (grownBy_set _ _ _)
            have hPz : Blk wz gp .u32 25 P' := by rw [hwz, hP'd]; exact hP.set _ _
            have uPz : U32 P' := by rw [hP'd]; exact uP.set _ (by omega) (by omega)
            have lPz : P'.length = k + 3 := by rw [hP'd]; simpa using LP.out
            have vPz : Hid (val P' = d * val V) := Lib.hid (by
              have e1 := val_take_set_succ P (k + 2) (c : Int) (by rw [LP.out]; omega)
              rw [← hP'd, List.take_of_length_le (by omega), Int.toNat_natCast, HV.out, List.take_of_length_le (by rw [HLV.out]; omega)] at e1
              exact e1)
            have hUz := hU2.grown hgz (by simp; omega)
            have HWZ := Lib.hid hwz
            have hwin := hUz.window i (k + 3) (m + 1 - i) HIL.out (by omega) (by omega)
            have hPs := hPz.sl_full (by omega)
            have cb := below_c _ _ _ _ (sub U i (k + 3)) P' wz hwin hPs (uU.sub i (k + 3)) uPz (by rw [sub_len U i (k + 3) HIL.out, lPz])
            rw [sub_len U i (k + 3) HIL.out, lPz, vPz.out] at cb
            rw [lPz] at hPs
            have LPZ := Lib.hid lPz
            clear hP'd hwz hg hP uP LP HV hwin hPs lPz hV
            go_wp2_with fail
            rw [ew1.out, ← HWZ.out]
            refine cb.mono ?_; rintro e w3 ⟨rfl, hdr3⟩
            have hPz3 := hPz.below hdr3.below hPz.lt
            have hUz3 := hUz.below hdr3.below hUz.lt
            have hg3 : w2.grownBy w3 (some gp) := by obtain ⟨nd, rfl⟩ := hdr3; exact grownBy_drewN hgz nd
            have vpos : Hid (0 < val V) := Lib.hid (by rw [EV.out]; exact Nat.mul_pos (Nat.lt_of_lt_of_le (Rpow_pos _) TN.out.2) (Nat.two_pow_pos s))
            clear hPz hUz hgz hdr3 HWZ cb hcp hfp
            by_cases hlt : val (sub U i (k + 3)) < d * val V
            · have hd1 : 1 ≤ d := by
                rcases Nat.eq_zero_or_pos d with h | h
                · rw [h] at hlt; omega
                · exact h
              have hq1 : Hid (val (sub U i (k + 3)) / val V ≤ d - 1) := Lib.hid (by
                have := (Nat.div_lt_iff_lt_mul vpos.out).2 hlt
                omega)
              have hdR1 : Hid (d - 1 < R) := Lib.hid (by omega)
              have hd4 : (d : Int) ≤ 4294967295 := by unfold R at hdR; omega
              rw [decide_eq_true hlt]
              clear hlt hdR
              go_wp2_with fail
              go_roundw
              case rel => exact ⟨d - 1, P', by go_num, hq1.out, hdR1.out, hPz3, uPz, LPZ.out, hg3⟩
              case measure => simp [estMu, intOf]; omega
            · rw [decide_eq_false hlt]
              have HLT := Lib.hid hlt
              have hd4 : (d : Int) ≤ 4294967295 := by unfold R at hdR; omega
              have hdm : (d : Int) % 4294967296 = d := by omega
              have hPs := hPz3.sl_full (by rw [LPZ.out]; omega)
              have ct := take_c gu i (k + 3) (m + 1 - i) U _ _ P' w3 hUz3 uU HIL.out (by omega) hPs uPz (fun b o h1 _ => by simp at h1; omega) (by rw [LU.out]; omega)
              rw [LPZ.out] at ct
              have hQ3 := hQ2.grown hg3 (by simp; omega)
              have hV3 := hV2.grown hg3 (by simp; omega)
              have hB3 := hB2.grown hg3 (by have := hB2.size; omega) (by intro g h; have := wgv.out; simp at h; omega)
              clear hlt hPs
              go_wp2_with fail
              rw [ew1.out]
              refine ct.mono ?_; rintro e w4 ⟨b, U', rfl, hb1, hU4, uU4, lU4, hout, hval, hg4⟩
              have HST := Lib.hid (show LongU (val X * 2 ^ s) (val V) i U' (Q.set i (d : Int)) by
                refine LongU.step HL.out (n := k + 2) (by rw [EV.out]; exact TN.out.1) HIL.out uU uU4 lU4 hout hb1 (P := P') ?_ vPz.out (Nat.not_lt.1 HLT.out) ?_ (by rw [LQ.out, ← HQL.out]; exact hin)
                · rw [List.take_of_length_le (l := P') (by rw [LPZ.out]; omega)] at hval
                  exact hval
                · have := HQD.out
                  exact (Nat.div_lt_iff_lt_mul vpos.out).1 (show val (sub U i (k + 3)) / val V < d + 1 by omega))
              have LU4 := Lib.hid (lU4.trans LU.out)
              have hQ4 := hQ3.grown hg4 (by simp; omega)
              have hV4 := hV3.grown hg4 (by simp; omega)
              have hP4 := hPz3.grown hg4 (by simp; omega)
              have hB4 := hB3.grown hg4 hB3.size (by intro g h; have := wgv.out; simp at h; omega)
              have hcq := hQ4.cell i (by rw [LQ.out, ← HQL.out]; exact hin)
              have hfq := hQ4.free i
              have hQ5 := hQ4.set i (d : Int)
              have uQ5 : U32 (Q.set i (d : Int)) := uQ.set _ (by omega) (by omega)
              have hdRR : d < R := hdR
              clear hval hout hg4 lU4 ct hb1 HL hdR
              go_wp2_with fail
              rw [Exit.noGoto_normal]
              clear hcq hfq hdm hd4 hcR hcnm
              go_wp2_with fail
              go_roundw
              case rel =>
                refine ⟨i, by omega, by go_num, U', Q.set i (d : Int), P', ?_, ?_, hQ5, ?_, uU4, uQ5, uPz, LU4.out, by have := LQ.out; simpa using this, LPZ.out, HST.out, ?_⟩
                · exact hV4.other (by omega) _ _
                · exact hU4.other (by omega) _ _
                · exact hP4.other (by omega) _ _
                · exact hB4.setCell (by have := wgv.out; show _ ≤ gq; omega) _
              case measure => simp [intOf]
    · obtain rfl : j = 0 := by omega
      rw [show (((0 : Nat) : Int) - 1) = -1 from rfl]
      have hsl := down_c gu (m + 1) s U wr hU uU (by rw [LU.out]; omega) (by rw [LU.out]; omega) hs32
      rw [LU.out] at hsl
      clear h0 hj
      go_wp2_with fail
      refine hsl.mono ?_; rintro e w2 ⟨U', rfl, hU2, uU2, lU2, hval, hg2⟩
      have hQ2 := hQ.grown hg2 (by simp; omega)
      have hB2 := hB.grown hg2 hB.size (by intro g h; have := wgv.out; simp at h; omega)
      have LU2 := Lib.hid (lU2.trans LU.out)
      have FIN := Lib.hid (long_fin (Nat.two_pow_pos s) (by have := HL.out.done.1; rw [EV.out] at this; exact this) (by have := HL.out.done.2; rw [EV.out] at this; exact this))
      have HVL := Lib.hid hval
      clear hval lU2 hsl hg2
      have hkm3 : (k : Int) + 2 ≤ (m : Int) + 1 := by omega
      have HQ2 := Lib.hid hQ2
      go_wp2_with fail
      go_quiet (fail)
      go_wp2_with fail
      go_ret2
      have hY1 : val X % val Y < R ^ (k + 2) := by
        have h1 := val_lt uy
        rw [hY] at h1
        exact Nat.lt_of_le_of_lt (Nat.le_of_lt (Nat.mod_lt _ (Nat.lt_of_lt_of_le (Rpow_pos _) TN.out.2))) h1
      have eR : val U' = val X % val Y := HVL.out.trans FIN.out.2
      have eQ : Q.length = ql := LQ.out.trans HQL.out.symm
      have sp := val_split U' (k + 2) (by rw [LU2.out]; omega)
      have := wgv.out
      refine ⟨gq, gu, Q, U', by rw [eQ, hX, hY]; rfl, by omega, by omega, by omega, HQ2.out, hU2, uQ, uU2, by have := HQL.out; omega, by rw [LU2.out, hX], FIN.out.1, ?_, (by repeat (first | exact hB2 | apply below_drewN))⟩
      rw [hY]
      refine no_carry (n := k + 2) ?_ hY1 (c := val (U'.drop (k + 2)))
      rw [← eR]
      exact sp.symm
end Go.Proofs.Ytnlmkikaaifcmaa
