import Derived.Test.YtlolkighnnedfaaGreatDoorZ33
import Derived.Test.YtlolkighnnedfaaGreatDoorZ24
import Derived.Test.YtlolkighnnedfaaGreatDoorZ14
import Derived.BigRegion
/- signetref13.Little by its contract. (Printed by gen_edrf.py.) -/
set_option linter.unusedVariables false
set_option linter.unusedSimpArgs false
namespace Go.Sg
open Go.RowKit
theorem or_loE {x c : Nat} {r : Nat} (hr : r < 4) (hx : x < 256 ^ r) (hc : c < 256) :
    bits .or .u32 (x : Int) ((c : Int) * 2 ^ (8 * r) % 4294967296) = ((x + c * 256 ^ r : Nat) : Int) ∧ x + c * 256 ^ r < 4294967296 := by
  have key : ∀ (m : Nat) (e : (2 : Int) ^ (8 * r) = (m : Int)) (em : 256 ^ r = m), c * m < 4294967296 → x < 4294967296 → x + c * m < 4294967296 → c * m ||| x = c * m + x →
      bits .or .u32 (x : Int) ((c : Int) * 2 ^ (8 * r) % 4294967296) = ((x + c * 256 ^ r : Nat) : Int) ∧ x + c * 256 ^ r < 4294967296 := by
    intro m e em h1 h0 h2 h3
    rw [e, em, ← Int.natCast_mul, show ((c * m : Nat) : Int) % 4294967296 = ((c * m : Nat) : Int) by omega, u32_or_nat _ _ h0 h1, Nat.or_comm, h3]
    exact ⟨by omega, h2⟩
  rcases (show r = 0 ∨ r = 1 ∨ r = 2 ∨ r = 3 by omega) with rfl | rfl | rfl | rfl
  · obtain rfl : x = 0 := by simpa using hx
    exact key 1 rfl rfl (by omega) (by omega) (by omega) (by simp)
  · replace hx : x < 256 := hx
    exact key 256 rfl rfl (by omega) (by omega) (by omega) (nat_join 8 _ _ (by omega) (by omega))
  · replace hx : x < 65536 := hx
    exact key 65536 rfl rfl (by omega) (by omega) (by omega) (nat_join 16 _ _ (by omega) (by omega))
  · replace hx : x < 16777216 := hx
    exact key 16777216 rfl rfl (by omega) (by omega) (by omega) (nat_join 24 _ _ (by omega) (by omega))
/-- How the number looks after i bytes, from the last. -/
def NbE (bs L : List Int) (i : Nat) : Prop := val L = bval (bs.drop (bs.length - i))
theorem NbE.start (bs : List Int) (n : Nat) : NbE bs (List.replicate n 0) 0 := by
  unfold NbE
  rw [val_zeros, Nat.sub_zero, List.drop_length]
  rfl
theorem NbE.done {bs L : List Int} (h : NbE bs L bs.length) : val L = bval bs := by
  unfold NbE at h
  rw [Nat.sub_self] at h
  exact h
theorem NbE.step {bs L : List Int} {i : Nat} (h : NbE bs L i) (ub : U8 bs) (uL : U32 L) (hi : i < bs.length) (p : Nat) (hp : p = bs.length - 1 - i) (hq : i / 4 < L.length) :
    ∃ y, bits .or .u32 (nth L (i / 4)) (nth bs p * 2 ^ (8 * (i % 4)) % 4294967296) = y ∧ 0 ≤ y ∧ y ≤ 4294967295 ∧ NbE bs (L.set (i / 4) y) (i + 1) := by
  have hc := ub p
  have lt : val L < 256 ^ i := by
    unfold NbE at h
    rw [h]
    have := bval_lt (ub.drop (by omega) (bs.length - i))
    rwa [List.length_drop, show bs.length - (bs.length - i) = i by omega] at this
  have hx : lb L (i / 4) < 256 ^ (i % 4) := by
    rw [lb_val uL]
    refine Nat.lt_of_le_of_lt (Nat.mod_le _ _) ?_
    rw [Nat.div_lt_iff_lt_mul (Nat.pow_pos R_pos), R_pow_256, ← Nat.pow_add, show i % 4 + 4 * (i / 4) = i by omega]
    exact lt
  have hj := or_loE (c := lb bs p) (show i % 4 < 4 by omega) hx (by unfold lb; omega)
  rw [lb_cast uL, show ((lb bs p : Nat) : Int) = nth bs p by unfold lb; omega] at hj
  refine ⟨_, rfl, ?_, ?_, ?_⟩
  · rw [hj.1]; omega
  · rw [hj.1]; omega
  · have e1 := val_set L (i / 4) (bits .or .u32 (nth L (i / 4)) (nth bs p * 2 ^ (8 * (i % 4)) % 4294967296)) hq
    rw [hj.1, Int.toNat_natCast, Nat.mul_add] at e1
    unfold NbE at h ⊢
    rw [hj.1]
    have e3 : R ^ (i / 4) * (lb bs p * 256 ^ (i % 4)) = lb bs p * 256 ^ i := by
      rw [R_pow_256, Nat.mul_comm, Nat.mul_assoc, ← Nat.pow_add, show i % 4 + 4 * (i / 4) = i by omega]
    rw [e3] at e1
    have ed : bs.drop (bs.length - (i + 1)) = nth bs p :: bs.drop (bs.length - i) := by
      rw [show bs.length - (i + 1) = p by omega, List.drop_eq_getElem_cons (by omega), show p + 1 = bs.length - i by omega, nth_get bs p (by omega)]
    rw [ed, bval_cons, List.length_drop, show bs.length - (bs.length - i) = i by omega, ← h]
    unfold lb at e1 ⊢
    omega
end Go.Sg
namespace Go.Proofs.YtlolkighnnedfaaGreatDoor
open Go.RowKit Go.Sg

set_option maxHeartbeats 1000000 in
theorem Little_c (a : Option Addr) (cap : Nat) (bs : List Int) (w : World) (hc : Sl .u8 w a cap bs) (ub : U8 bs) (hl : bs.length ≤ 2097152) :
    Calls Tryz.prog 23 #[.slice a bs.length cap] w (NatPost (lnum bs) w) := by
  obtain ⟨rs, hrs⟩ : ∃ rs, rs = bs.reverse := ⟨_, rfl⟩
  have hrl : rs.length = bs.length := by rw [hrs]; exact List.length_reverse
  have ur : U8 rs := by rw [hrs]; exact ub.reverse (by omega)
  have HRN : Hid (∀ i, i < bs.length → nth rs (bs.length - 1 - i) = nth bs i) := Lib.hid (fun i hi => by
    rw [hrs, nth_get _ _ (by rw [List.length_reverse]; omega), nth_get _ _ hi, List.getElem_reverse]
    congr 1
    omega)
  have HLV : Hid (bval rs = lnum bs) := Lib.hid (by rw [hrs]; rfl)
  have HRL := Lib.hid hrl
  clear hrs hrl
  go_enter Tryz.func23, Tryz.ntmps23
  obtain ⟨n, hn⟩ : ∃ n, n = (bs.length + 3) / 4 := ⟨_, rfl⟩
  have E4 : Hid (((bs.length : Int) + 3) / 4 = (n : Int)) := Lib.hid (by omega)
  have hn1 : 4 * n ≤ bs.length + 3 := by omega
  have Hn := Lib.hid hn
  clear hn
  go_wp2_with (at_make; refine wpList_make_blk _ rfl _ _ 29 rfl 64 .u32 4 Tryz.underlying29 info32 n _ _ rfl rfl E4.out E4.out (by omega) (by omega) ?_)
  intro w1 hk1 hs1 hb1
  have hs := Lib.hid hs1
  clear hs1
  go_wp2_with fail
  go_loopw [4] (fun t wr => ∃ i : Nat, i ≤ bs.length ∧ t = .int .i64 (i : Int) ∧ ∃ L, Blk wr w.heap.size .u32 64 L ∧ L.length = n ∧ U32 L ∧ NbE rs L i ∧ Below w.heap.size w wr)
    (fun t _ => bs.length - (intOf t).toNat)
  case atStart => exact ⟨0, by omega, rfl, _, hk1, by simp, .zeros (by omega) _, .start _ _, hb1⟩
  case round =>
    obtain ⟨i, hi, rfl, L, hL, hLn, hu, hF, hb⟩ := hrel
    have HLn := Lib.hid hLn; clear hLn
    by_cases hlt : i < bs.length
    · obtain ⟨b, off, rfl, hcc⟩ := hc.cells (by omega)
      have hcb : wr.cell? ⟨b, off + i, none⟩ = some (.int .u8 (nth bs i)) := (hb.cell (World.block_lt_of_cell? w _ (hcc i (by omega)))).trans (hcc i (by omega))
      have hbi := ub i
      have hq : i / 4 < L.length := by have := HLn.out; have := Hn.out; omega
      have hcl := hL.cell (i / 4) hq
      have hfr := hL.free (i / 4)
      have hln : i / 4 < n := by have := HLn.out; omega
      have hul := hu (i / 4)
      have hst := hF.step ur hu (by rw [HRL.out]; exact hlt) (bs.length - 1 - i) (by rw [HRL.out]) hq
      rw [HRN.out i hlt] at hst
      have HS := Lib.hid hst
      clear hcc hq hst
      go_wp2_with fail
      go_region
      all_goals go_wp2
      go_roundw
      case rel =>
        obtain ⟨y, hy, y0, y1, hF'⟩ := HS.out
        rw [hy]
        exact ⟨i + 1, by omega, by go_num, L.set (i / 4) y, hL.set _ _, by have := HLn.out; simpa using this, hu.set _ y0 y1, hF', (hb.setCell (Nat.le_refl _) _).drew⟩
      case measure => simp [intOf]; omega
    · obtain rfl : i = bs.length := by omega
      have hF1 : NbE rs L rs.length := by rw [HRL.out]; exact hF
      have hv := Lib.hid hF1.done
      have HS : Hid (Sl .u32 wr (some ⟨w.heap.size, 0, none⟩) n L) := Lib.hid (by have e := HLn.out; have := hL.sl_full (by rw [e]; omega); rwa [e] at this)
      have nv := NumAt.of HS.out hu (by rw [HLn.out]; omega)
      rw [HLn.out, hv.out, HLV.out] at nv
      clear hF hF1
      go_wp2_with fail
      refine (trim_v nv).mono ?_; rintro e w' ⟨v, rfl, hr, hb2⟩
      go_wp2_with fail
      go_ret
      exact ⟨v, rfl, hr.mono hb.size, hb.trans (hb2.mono hb.size)⟩
theorem lnlim {bs : List Int} {k : Nat} (u : U8 bs) (h : bs.length ≤ 4 * k) : Lim k (lnum bs) := ⟨by
  rw [R_pow_256]
  refine Nat.lt_of_lt_of_le (lnum_lt u) (Nat.pow_le_pow_right (by decide) h)⟩
theorem Little_can {a : Option Addr} {cap : Nat} {bs : List Int} {W : World} (s : Sl .u8 W a cap bs) (u : U8 bs) (hl : bs.length ≤ 2097152) : Calls Tryz.prog 23 #[.slice a bs.length cap] W (CanPost (lnum bs) W) :=
  (Little_c a cap bs W s u hl).mono fun e w' hp => hp.can (lnlim (k := 524288) u (by omega)) (by omega)
end Go.Proofs.YtlolkighnnedfaaGreatDoor
/- signetref13.Encode by its contract. (Printed by gen_edrg.py.) -/
set_option linter.unusedVariables false
set_option linter.unusedSimpArgs false
namespace Go.Sg
open Go.RowKit
/-- The bytes that are laid so far, the lowest first. -/
def LsInv (n : Nat) (F : List Int) (i : Nat) : Prop := F.length = 32 ∧ ∀ k, k < 32 → nth F k = if k < i then ((byt n k : Nat) : Int) else 0
theorem LsInv.start (n : Nat) : LsInv n (List.replicate 32 0) 0 := ⟨List.length_replicate, fun k hk => by rw [nth_replicate0, if_neg (by omega)]⟩
theorem LsInv.lay {n i : Nat} {F : List Int} (h : LsInv n F i) (hi : i < 32) : LsInv n (F.set i ((byt n i : Nat) : Int)) (i + 1) := by
  obtain ⟨h1, h2⟩ := h
  refine ⟨by rw [List.length_set, h1], fun k hk => ?_⟩
  rw [nth_set _ _ _ _ (by omega)]
  by_cases e : i = k
  · subst e
    rw [if_pos rfl, if_pos (by omega)]
  · rw [if_neg e, h2 k hk]
    by_cases hl : k < i
    · rw [if_pos hl, if_pos (by omega)]
    · rw [if_neg hl, if_neg (by omega)]
theorem LsInv.done {n i : Nat} {F : List Int} (h : LsInv n F i) (hn : n < 256 ^ i) : F = (beN n 32).reverse := by
  obtain ⟨h1, h2⟩ := h
  refine ext_nth _ _ (by rw [h1, List.length_reverse, beN_len]) fun j hj => ?_
  rw [h1] at hj
  have e1 : nth (beN n 32).reverse j = nth (beN n 32) (32 - 1 - j) := by
    have l := beN_len n 32
    rw [nth_get _ _ (by rw [List.length_reverse, l]; exact hj), nth_get _ _ (by rw [l]; omega), List.getElem_reverse]
    simp only [l]
  rw [e1, nth_beN (by omega), h2 j hj, show 32 - 1 - (32 - 1 - j) = j by omega]
  by_cases hl : j < i
  · rw [if_pos hl]
  · rw [if_neg hl]
    have : byt n j = 0 := by
      unfold byt
      rw [Nat.div_eq_of_lt (Nat.lt_of_lt_of_le hn (Nat.pow_le_pow_right (by decide) (by omega))), Nat.zero_mod]
    rw [this]; rfl
theorem and255E (y : Nat) (h : y < 4294967296) : bits .and .u32 (y : Int) 255 % 256 = ((y % 256 : Nat) : Int) := by
  rw [show bits .and .u32 (y : Int) 255 = ((y &&& 255 : Nat) : Int) from u32_and_nat _ 255 h (by omega), Nat.and_two_pow_sub_one_eq_mod _ 8]
  omega
end Go.Sg
namespace Go.Proofs.YtlolkighnnedfaaGreatDoor
open Go.RowKit Go.Sg
theorem CanAt.fp8 {W : World} {v : Value} {x : Fp} (h : CanAt W v x.val) : ∃ a c zs, v = .slice a zs.length c ∧ Sl .u32 W a c zs ∧ U32 zs ∧ val zs = x.val ∧ zs.length ≤ 8 := by
  obtain ⟨a, c, zs, hv, hs, hc, hu, hz, hl⟩ := h
  refine ⟨a, c, zs, hv, hs, hu, hz, ?_⟩
  have h1 := hc.len_lt (n := 8) hu (by rw [hz]; exact (lim_fp x).1)
  exact h1
theorem bit70 {v : Value} {n : Nat} {W : World} (h : NumAt W v n) : Calls Tryz.prog 71 #[v, .int .i64 0] W fun e w' => e = .returned (.bool (decide (n % 2 = 1))) ∧ W = w' := by
  have h1 := bit7_v h 0 (by omega)
  rw [Nat.pow_zero, Nat.div_one] at h1
  exact h1

set_option maxHeartbeats 4000000 in
set_option maxRecDepth 20000 in
theorem renc_ok {va : Value} {Q : Pt} {w : World} (ha : PtIn w va Q.1.val Q.2.val false) (oQ : OnC Q) :
    Calls Tryz.prog 31 #[va] w (EncOk Q w) := by
  have O1 := Lib.hid (onB_of oQ)
  clear oQ
  obtain ⟨vax, vay, rfl, nax, nay⟩ := ha
  go_enter Tryz.func31, Tryz.ntmps31
  have hB := Below.refl w.heap.size w
  go_wp2_with (refine wpList_box_agg rfl 31 _ rfl [vax, vay, .bool false] rfl ?_)
  intro w1 hk1 hb
  have hz_ := hB.size
  replace hB := hB.trans (hb.mono hB.size)
  clear hb
  obtain ⟨g1, hg_⟩ : ∃ g, g = w.heap.size := ⟨_, rfl⟩
  rw [← hg_] at hk1 ⊢
  have HG1 : Hid (w.heap.size ≤ g1) := Lib.hid (by rw [hg_]; exact hz_)
  clear hg_ hz_
  have h_ := rOn_c (inf := false) ⟨_, _, rfl, nax.below hB, nay.below hB⟩
  rw [O1.out] at h_
  go_wp2_with (refine wpList_load_agg rfl 31 _ rfl g1 rfl _ [vax, vay, .bool false] _ hk1 Tryz.underlying31 rfl size_pt ?_)
  refine (h_).mono ?_; rintro e_ w2 ⟨rfl, hb⟩
  replace hB := hB.trans (hb.mono hB.size)
  replace hk1 := hk1.keep hb
  clear hb h_
  have q0_ := hk1.cell 1 rfl
  go_wp2_with fail
  refine (trim_v (nay.below hB)).mono ?_; rintro e_ w3 ⟨v14, rfl, hn, hb⟩
  clear q0_
  have c14 := hn.fp
  replace hB := hB.trans (hb.mono hB.size)
  replace hk1 := hk1.keep hb
  clear hb hn
  obtain ⟨a14, p14, zs, rfl, hc, ux, hzv, hl8⟩ := c14.fp8
  have BT := fun i => byt_limb ux i
  obtain ⟨n, hn_⟩ : ∃ n, n = Q.2.val := ⟨_, rfl⟩
  rw [hzv, ← hn_] at BT
  have HN := Lib.hid hn_
  have HV : Hid (n < 256 ^ (4 * zs.length)) := Lib.hid (by rw [hn_, ← hzv, ← R_pow_256]; exact val_lt ux)
  obtain ⟨l, hl1⟩ : ∃ l, l = zs.length := ⟨_, rfl⟩
  have HL := Lib.hid hl1
  rw [← hl1] at hl8 HV ⊢
  clear hl1 hn_ hzv c14
  have Wd_ := hB.size
  go_wp2_with (at_make; refine wpList_make_blk _ rfl _ _ 22 rfl 5 .u8 1 Tryz.underlying22 info8 32 _ _ rfl rfl rfl rfl (by omega) (by omega) ?_)
  intro wm kc1 hs1 hb1
  clear hs1
  go_wp2_with fail
  go_loopw [7] (fun t wr => ∃ i : Nat, i ≤ 4 * l ∧ t = .int .i64 (i : Int) ∧ ∃ F, Blk wr w3.heap.size .u8 5 F ∧ LsInv n F i ∧ Below w3.heap.size w3 wr)
    (fun t _ => 4 * l - (intOf t).toNat)
  case atStart => exact ⟨0, by omega, rfl, _, kc1, .start _, hb1⟩
  case round =>
    obtain ⟨i, hi, rfl, F, hL, hF, hb⟩ := hrel
    have HF := Lib.hid hF
    have lF := Lib.hid hF.1
    clear hF kc1 hb1
    by_cases hlt : i < 4 * l
    · have hd1 : decide ((i : Int) < 4 * (l : Int)) = true := decide_eq_true (by omega)
      have hlt2 : (i : Int) < 4 * (l : Int) := by omega
      obtain ⟨q, hq⟩ : ∃ q, q = i / 4 := ⟨_, rfl⟩
      obtain ⟨r, hr⟩ : ∃ r, r = i % 4 := ⟨_, rfl⟩
      have Eq : (i : Int) / 4 = (q : Int) := by omega
      have Er : (i : Int) % 4 = (r : Int) := by omega
      have r4 : r < 4 := by omega
      have i32 : i < 32 := by omega
      obtain ⟨b, off, rfl, hcc⟩ := (hc.below hb).cells (by have := HL.out; omega)
      have hcb := hcc q (by have := HL.out; omega)
      have hql : (q : Int) < (l : Int) := by omega
      have bt := BT i
      rw [← hq, ← hr] at bt
      have lx := lb_lt ux q
      rw [← lb_cast ux q] at hcb
      obtain ⟨x, hx⟩ : ∃ x, x = lb zs q := ⟨_, rfl⟩
      rw [← hx] at hcb bt lx
      unfold R at lx
      obtain ⟨y, hy⟩ : ∃ y, y = byt n i := ⟨_, rfl⟩
      rw [← hy] at bt
      have HY := Lib.hid hy
      have BY := Lib.hid bt
      clear hcc hx hq hr hy bt
      have hb8 : bits .and .u32 ((x : Int) / 2 ^ (8 * r)) 255 % 256 = (y : Int) := by
        have lz : x / 2 ^ (8 * r) < 4294967296 := Nat.lt_of_le_of_lt (Nat.div_le_self _ _) lx
        have h1 := and255E (x / 2 ^ (8 * r)) lz
        rw [← BY.out] at h1
        rw [← h1]
        congr 2 <;> (push_cast; rfl)
      have hcl := hL.cell i (by rw [lF.out]; omega)
      have hfr := hL.free i
      have hL2 := hL.set i (y : Int)
      have hb2 := hb.setCell (p := ⟨w3.heap.size, i, none⟩) (Nat.le_refl _) (.int .u8 (y : Int))
      have HF2 : Hid (LsInv n (F.set i (y : Int)) (i + 1)) := Lib.hid (by rw [HY.out]; exact HF.out.lay i32)
      clear hL hb HF lF BY hd1 BT HY
      go_wp2_with fail
      go_roundw
      case rel => exact ⟨i + 1, by omega, by go_num, F.set i (y : Int), hL2, HF2.out, hb2⟩
      case measure => simp [intOf]; omega
    · obtain rfl : 4 * l = i := by omega
      have hd1 : decide (4 * (l : Int) < 4 * (l : Int)) = false := by simp
      have EF := HF.out.done HV.out
      rw [HN.out] at EF
      have HLL : Hid (F.length = 32) := lF
      have HGC : Hid (w.heap.size ≤ w3.heap.size) := Lib.hid hB.size
      have uL : U8 F := by rw [EF]; exact (beN_u8 _ _).reverse (by omega)
      have HL := Lib.hid EF
      replace hB := hB.trans (hb.mono hB.size)
      replace hk1 := hk1.keep hb
      clear hb EF HF lF BT ux hc
      have q0_ := hk1.cell 0 rfl
      have bc := bit70 (nax.below hB)
      obtain ⟨gc, hgc⟩ : ∃ g, g = w3.heap.size := ⟨_, rfl⟩
      rw [← hgc] at hL HGC ⊢
      clear hgc
      by_cases hx2 : Q.1.val % 2 = 1
      · have hd2 : decide (Q.1.val % 2 = 1) = true := decide_eq_true hx2
        rw [hd2] at bc
        obtain ⟨b, hb31⟩ : ∃ b : Nat, (b : Int) = nth F 31 := ⟨(nth F 31).toNat, by have := uL 31; omega⟩
        have EO := encB_odd hx2 (b := b) (by rw [← HL.out]; exact hb31)
        have h128 := or128 b EO.1
        have EO2 := Lib.hid EO.2
        rw [← HL.out] at EO2
        have HB31 := Lib.hid hb31
        clear hx2 hd2 hb31 EO
        go_wp2_with fail
        refine bc.mono ?_; rintro e_ w9 ⟨rfl, rfl⟩
        clear bc q0_
        have c31 := hL.cell 31 (by rw [HLL.out]; omega)
        have f31 := hL.free 31
        rw [← HB31.out] at c31
        have kc3 := hL.set 31 ((b + 128 : Nat) : Int)
        have hB3 := hB.setCell (p := ⟨gc, 31, none⟩) HGC.out (.int .u8 ((b + 128 : Nat) : Int))
        have hN := New.of_blk kc3 HGC.out 32 32 (Nat.le_refl _) (by rw [List.length_set, HLL.out]; exact Nat.le_refl _) (by omega)
        rw [List.take_of_length_le (by rw [List.length_set, HLL.out]; exact Nat.le_refl _), EO2.out] at hN
        clear kc3 hL hB hk1
        go_wp2_with fail
        go_ret2
        exact ⟨_, rfl, hN, hB3⟩
      · have hd2 : decide (Q.1.val % 2 = 1) = false := decide_eq_false hx2
        rw [hd2] at bc
        have EO := Lib.hid (encB_even hx2)
        rw [← HL.out] at EO
        clear hx2 hd2
        go_wp2_with fail
        refine bc.mono ?_; rintro e_ w9 ⟨rfl, rfl⟩
        clear bc q0_
        have hN := New.of_blk hL HGC.out 32 32 (Nat.le_refl _) (by rw [HLL.out]; exact Nat.le_refl _) (by omega)
        rw [List.take_of_length_le (by rw [HLL.out]; exact Nat.le_refl _), ← EO.out] at hN
        go_wp2_with fail
        go_ret2
        exact ⟨_, rfl, hN, hB⟩
set_option maxHeartbeats 4000000 in
set_option maxRecDepth 20000 in
theorem renc_no {va : Value} {X Y : Nat} {i : Bool} {w : World} (ha : PtIn w va X Y i) (o1 : onB X Y i = false) :
    Calls Tryz.prog 31 #[va] w (EncNo w) := by
  have O1 := Lib.hid o1
  clear o1
  obtain ⟨vax, vay, rfl, nax, nay⟩ := ha
  go_enter Tryz.func31, Tryz.ntmps31
  have hB := Below.refl w.heap.size w
  go_wp2_with (refine wpList_box_agg rfl 31 _ rfl [vax, vay, .bool i] rfl ?_)
  intro w1 hk1 hb
  have hz_ := hB.size
  replace hB := hB.trans (hb.mono hB.size)
  clear hb
  obtain ⟨g1, hg_⟩ : ∃ g, g = w.heap.size := ⟨_, rfl⟩
  rw [← hg_] at hk1 ⊢
  have HG1 : Hid (w.heap.size ≤ g1) := Lib.hid (by rw [hg_]; exact hz_)
  clear hg_ hz_
  have h_ := rOn_c (inf := i) ⟨_, _, rfl, nax.below hB, nay.below hB⟩
  rw [O1.out] at h_
  go_wp2_with (refine wpList_load_agg rfl 31 _ rfl g1 rfl _ [vax, vay, .bool i] _ hk1 Tryz.underlying31 rfl size_pt ?_)
  refine (h_).mono ?_; rintro e_ w2 ⟨rfl, hb⟩
  replace hB := hB.trans (hb.mono hB.size)
  replace hk1 := hk1.keep hb
  clear hb h_
  go_wp2_with fail
  go_ret2
  exact ⟨rfl, hB⟩
end Go.Proofs.YtlolkighnnedfaaGreatDoor
/- signetref13.Decode by its contract. (Printed by gen_edrh.py.) -/
set_option linter.unusedVariables false
set_option linter.unusedSimpArgs false
namespace Go.Proofs.YtlolkighnnedfaaGreatDoor
open Go.RowKit Go.Sg
theorem CanAt.sliced0 {W : World} {v : Value} {n : Nat} (h : CanAt W v n) : ∃ a l p, v = .slice a l p ∧ (l = 0 ↔ n = 0) := by
  obtain ⟨a, c, zs, hv, hs, hc, hu, hz, hl⟩ := h
  refine ⟨a, _, c, hv, fun h0 => ?_, fun h0 => ?_⟩
  · rw [← hz, List.eq_nil_of_length_eq_zero h0]; rfl
  · have := hc.len_lt (n := 0) hu (by rw [hz, h0]; decide)
    omega
theorem shr128 (b : Nat) (h : b < 256) : ((b : Int) / 128 == 1) = decide (128 ≤ b) := by
  by_cases h1 : 128 ≤ b
  · rw [decide_eq_true h1]; simp; omega
  · rw [decide_eq_false h1]; simp; omega
theorem fp_minus {x : Fp} (h : x ≠ 0) : (0 - x).val = eP - x.val := by
  have h1 : x.val ≠ 0 := fun h2 => h (fp_ext (by rw [h2]; exact fp_zero.symm))
  have h2 := x.isLt
  rw [fp_sub, fp_zero]
  rw [Nat.add_zero]
  exact Nat.mod_eq_of_lt (by omega)

set_option maxHeartbeats 4000000 in
set_option maxRecDepth 20000 in
theorem rDecode_c {a : Option Addr} {cap : Nat} {xs : List Int} {w : World} (hx : Sl .u8 w a cap xs) (ux : U8 xs) (hl : xs.length ≤ 140737488350000) :
    Calls Tryz.prog 22 #[.slice a xs.length cap] w (DecPost (decB xs) w) := by
  obtain ⟨dr, hdr⟩ : ∃ r, r = decB xs := ⟨_, rfl⟩
  rw [← hdr]
  have HDR := Lib.hid hdr
  clear hdr
  by_cases h32 : xs.length = 32
  · skip
    have H32 := Lib.hid h32
    obtain ⟨b_, off_, rfl, _⟩ := hx.cells (by omega)
    obtain ⟨b, hb31⟩ : ∃ b : Nat, (b : Int) = nth xs 31 := ⟨(nth xs 31).toNat, by have := ux 31; omega⟩
    have hbr : b < 256 := by have := ux 31; omega
    have h127 := and127 b hbr
    have h128 := shr128 b hbr
    obtain ⟨m, hm⟩ : ∃ m : Nat, m = b % 128 := ⟨_, rfl⟩
    rw [← hm] at h127
    have LB := Lib.hid (lnum_bits h32 ux hb31)
    rw [← hm] at LB
    have HB31 := Lib.hid hb31
    have UM : U8 (xs.set 31 (m : Int)) := ux.set 31 (by omega) (by omega)
    have Hbr := Lib.hid hbr
    rw [h32]
    clear hm hl hb31 hbr
    go_enter Tryz.func22, Tryz.ntmps22
    have hB := Below.refl w.heap.size w
    go_wp2_with (refine wpList_alloc_agg rfl 31 rfl [(.slice none 0 0), (.slice none 0 0), (.bool false)] 3 (by kernel_rfl) ?_)
    intro w1 hk2 hb
    have hz_ := hB.size
    replace hB := hB.trans (hb.mono hB.size)
    clear hb
    obtain ⟨g2, hg_⟩ : ∃ g, g = w.heap.size := ⟨_, rfl⟩
    rw [← hg_] at hk2 ⊢
    have HG2 : Hid (w.heap.size ≤ g2) := Lib.hid (by rw [hg_]; exact hz_)
    clear hg_ hz_
    have hxw := hx.below hB
    go_wp2_with (at_builtin; refine wpList_append_new _ rfl _ _ 22 rfl w1.heap.size 5 .u8 1 Tryz.underlying22 info8a _ [] rfl (New.nil _ _ _ _) _ _ _ xs (by rw [H32.out]; rfl) rfl hxw.cells (by simp; omega) (by simp; omega) (by simp) ?_)
    intro vc w2 hn hg1 _
    have hb : Below w1.heap.size w1 w2 := (Below.refl w1.heap.size w1).grown hg1 (Nat.le_refl _) (fun g hg => by simp [Value.ownBlock] at hg)
    clear hg1 hxw h32
    obtain ⟨gc, cp, rfl, hgc, kc⟩ := hn.pre (by have := H32.out; omega)
    have ne2c : Hid (g2 ≠ gc) := Lib.hid (by have := hk2.lt; omega)
    have HGC : Hid (w.heap.size ≤ gc) := Lib.hid (by have := hB.size; omega)
    replace hB := hB.trans (hb.mono hB.size)
    replace hk2 := hk2.keep hb
    clear hb hn hgc
    rw [H32.out]
    have c31 := kc.cell 31 (by rw [H32.out]; omega)
    have f31 := kc.free 31
    rw [← HB31.out] at c31
    obtain ⟨o, ho, hon⟩ : ∃ o : Bool, o = decide (128 ≤ b) ∧ ((b : Int) / 128 == 1) = o := ⟨_, rfl, h128⟩
    have HO : Hid (o = decide (2 ^ 255 ≤ lnum xs)) := Lib.hid (by rw [ho]; exact decide_eq_decide.2 LB.out.2.symm)
    clear h128 ho
    obtain ⟨q128, hq128⟩ : ∃ q, q = (b : Int) / 128 := ⟨_, rfl⟩
    rw [← hq128] at hon
    have hqs := hq128.symm
    clear hq128
    have kc2 := kc.set 31 (m : Int)
    have hk2s := hk2.other ne2c.out 31 (.int .u8 (m : Int))
    have hbs := hB.setCell (p := ⟨gc, 31, none⟩) HGC.out (.int .u8 (m : Int))
    have sx := kc2.sl
    have nc := Little_c (some ⟨gc, 0, none⟩) cp (xs.set 31 (m : Int)) _ sx UM (by rw [List.length_set, H32.out]; omega)
    rw [List.length_set, H32.out, LB.out.1] at nc
    clear sx kc2 kc hB hk2
    go_wp2_with fail
    obtain ⟨w3, hw_⟩ : ∃ x, x = World.setCell w2 ⟨gc, 31, none⟩ (.int .u8 (m : Int)) := ⟨_, rfl⟩
    rw [← hw_] at nc hk2s hbs ⊢
    clear hw_ c31 f31
    have hk2 := hk2s
    have hB := hbs
    clear hk2s hbs
    obtain ⟨yn, hyn⟩ : ∃ y, y = lnum xs % 2 ^ 255 := ⟨_, rfl⟩
    rw [← hyn] at nc
    have HYN := Lib.hid hyn
    have ylt : yn < 2 ^ 255 := by rw [hyn]; exact Nat.mod_lt _ (Nat.pow_pos (by omega))
    have ylim : Lim 8 yn := ⟨Nat.lt_trans ylt (by decide +kernel)⟩
    clear hyn ylt hqs hon h127
    refine nc.mono ?_; rintro e_ w4 ⟨v31, rfl, hn, hb⟩
    have r31 := hn.mono (Nat.succ_le_of_lt hk2.lt)
    clear nc
    replace hB := hB.trans (hb.mono hB.size)
    replace hk2 := hk2.keep hb
    have c31 := hn.can ylim (by omega)
    clear hb hn
    by_cases hy : yn < eP
    · skip
      obtain ⟨y, rfl⟩ : ∃ y : Fp, yn = y.val := ⟨⟨yn, hy⟩, rfl⟩
      have HX := Lib.hid (cmpI_lt hy)
      clear hy ylim
      go_wp2_with fail
      refine (rP_c w4).mono ?_; rintro e_ w5 ⟨v33, rfl, c33, hb⟩
      replace hB := hB.trans (hb.mono hB.size)
      replace hk2 := hk2.keep hb
      replace r31 := r31.below hb
      replace c31 := c31.below hb
      clear hb
      have h_ := cmp7_v c31.num c33.num
      rw [HX.out] at h_
      go_wp2_with fail
      refine (h_).mono ?_; rintro e_ w6 ⟨rfl, rfl⟩
      clear h_
      clear c33
      have HE0 := Lib.hid (decB_is H32.out HYN.out.symm HO.out)
      rw [← HDR.out] at HE0
      obtain ⟨er, her⟩ : ∃ r, r = eRoot y o := ⟨_, rfl⟩
      rw [← her] at HE0
      have HER := Lib.hid her
      clear her
      go_wp2_with fail
      refine (rmul_f c31.num c31.num ).mono ?_; rintro e_ w6 ⟨v39, rfl, hn, hb⟩
      have c39 := hn.fp
      replace hB := hB.trans (hb.mono hB.size)
      replace hk2 := hk2.keep hb
      replace r31 := r31.below hb
      replace c31 := c31.below hb
      clear hb hn
      go_wp2_with (refine wpList_lit rfl 29 64 _ rfl Tryz.underlying29 info32e 1 rfl ?_)
      intro w7 hl hb
      have c41 := (NatRes.lit (c := 1) hl (Nat.zero_le _) (by omega) (by omega)).can (k := 1) (by exact ⟨by decide +kernel⟩) (by omega)
      replace c41 : CanAt w7 _ (1 : Fp).val := c41
      obtain ⟨v41, hv41⟩ : ∃ v, v = Value.slice (some ⟨w6.heap.size, 0, none⟩) 1 1 := ⟨_, rfl⟩
      rw [← hv41] at c41 ⊢
      clear hv41 hl
      replace hB := hB.trans (hb.mono hB.size)
      replace hk2 := hk2.keep hb
      replace r31 := r31.below hb
      replace c31 := c31.below hb
      replace c39 := c39.below hb
      clear hb
      go_wp2_with fail
      refine (rsub_f c39.num c41.num ).mono ?_; rintro e_ w8 ⟨v42, rfl, hn, hb⟩
      have c42 := hn.fp
      replace hB := hB.trans (hb.mono hB.size)
      replace hk2 := hk2.keep hb
      replace r31 := r31.below hb
      replace c31 := c31.below hb
      replace c39 := c39.below hb
      replace c41 := c41.below hb
      clear hb hn
      go_wp2_with fail
      refine (rcurve_c w8).mono ?_; rintro e_ w9 ⟨v43, rfl, c43, hb⟩
      replace hB := hB.trans (hb.mono hB.size)
      replace hk2 := hk2.keep hb
      replace r31 := r31.below hb
      replace c31 := c31.below hb
      replace c39 := c39.below hb
      replace c41 := c41.below hb
      replace c42 := c42.below hb
      clear hb
      go_wp2_with fail
      refine (rmul_f c43.num c39.num ).mono ?_; rintro e_ w10 ⟨v45, rfl, hn, hb⟩
      have c45 := hn.fp
      replace hB := hB.trans (hb.mono hB.size)
      replace hk2 := hk2.keep hb
      replace r31 := r31.below hb
      replace c31 := c31.below hb
      replace c39 := c39.below hb
      replace c41 := c41.below hb
      replace c42 := c42.below hb
      replace c43 := c43.below hb
      clear hb hn
      go_wp2_with (refine wpList_lit rfl 29 64 _ rfl Tryz.underlying29 info32e 1 rfl ?_)
      intro w11 hl hb
      have c46 := (NatRes.lit (c := 1) hl (Nat.zero_le _) (by omega) (by omega)).can (k := 1) (by exact ⟨by decide +kernel⟩) (by omega)
      replace c46 : CanAt w11 _ (1 : Fp).val := c46
      obtain ⟨v46, hv46⟩ : ∃ v, v = Value.slice (some ⟨w10.heap.size, 0, none⟩) 1 1 := ⟨_, rfl⟩
      rw [← hv46] at c46 ⊢
      clear hv46 hl
      replace hB := hB.trans (hb.mono hB.size)
      replace hk2 := hk2.keep hb
      replace r31 := r31.below hb
      replace c31 := c31.below hb
      replace c39 := c39.below hb
      replace c41 := c41.below hb
      replace c42 := c42.below hb
      replace c43 := c43.below hb
      replace c45 := c45.below hb
      clear hb
      go_wp2_with fail
      refine (radd_f c45.num c46.num ).mono ?_; rintro e_ w12 ⟨v47, rfl, hn, hb⟩
      have c47 := hn.fp
      replace hB := hB.trans (hb.mono hB.size)
      replace hk2 := hk2.keep hb
      replace r31 := r31.below hb
      replace c31 := c31.below hb
      replace c39 := c39.below hb
      replace c41 := c41.below hb
      replace c42 := c42.below hb
      replace c43 := c43.below hb
      replace c45 := c45.below hb
      replace c46 := c46.below hb
      clear hb hn
      go_wp2_with fail
      refine (rinv_f c47.num  ).mono ?_; rintro e_ w13 ⟨v48, rfl, hn, hb⟩
      have c48 := hn.fp
      replace hB := hB.trans (hb.mono hB.size)
      replace hk2 := hk2.keep hb
      replace r31 := r31.below hb
      replace c31 := c31.below hb
      replace c39 := c39.below hb
      replace c41 := c41.below hb
      replace c42 := c42.below hb
      replace c43 := c43.below hb
      replace c45 := c45.below hb
      replace c46 := c46.below hb
      replace c47 := c47.below hb
      clear hb hn
      go_wp2_with fail
      refine (rmul_f c42.num c48.num ).mono ?_; rintro e_ w14 ⟨v49, rfl, hn, hb⟩
      have c49 := hn.fp
      replace hB := hB.trans (hb.mono hB.size)
      replace hk2 := hk2.keep hb
      replace r31 := r31.below hb
      replace c31 := c31.below hb
      replace c39 := c39.below hb
      replace c41 := c41.below hb
      replace c42 := c42.below hb
      replace c43 := c43.below hb
      replace c45 := c45.below hb
      replace c46 := c46.below hb
      replace c47 := c47.below hb
      replace c48 := c48.below hb
      clear hb hn
      have e49 : Hid ((y * y - 1) * finv (eD * (y * y) + 1) = eXX y) := Lib.hid rfl
      rw [e49.out] at c49
      obtain ⟨xx, hxx⟩ : ∃ x, x = eXX y := ⟨_, rfl⟩
      rw [← hxx] at c49
      have HXX := Lib.hid hxx
      clear hxx e49
      clear c39
      clear c41
      clear c42
      clear c43
      clear c45
      clear c46
      clear c47
      clear c48
      go_wp2_with fail
      refine (rP_c w14).mono ?_; rintro e_ w15 ⟨v51, rfl, c51, hb⟩
      replace hB := hB.trans (hb.mono hB.size)
      replace hk2 := hk2.keep hb
      replace r31 := r31.below hb
      replace c31 := c31.below hb
      replace c49 := c49.below hb
      clear hb
      go_wp2_with (refine wpList_lit rfl 29 64 _ rfl Tryz.underlying29 info32e 3 rfl ?_)
      intro w16 hl hb
      have c52 := (NatRes.lit (c := 3) hl (Nat.zero_le _) (by omega) (by omega)).can (k := 1) (by exact ⟨by decide +kernel⟩) (by omega)
      obtain ⟨v52, hv52⟩ : ∃ v, v = Value.slice (some ⟨w15.heap.size, 0, none⟩) 1 1 := ⟨_, rfl⟩
      rw [← hv52] at c52 ⊢
      clear hv52 hl
      replace hB := hB.trans (hb.mono hB.size)
      replace hk2 := hk2.keep hb
      replace r31 := r31.below hb
      replace c31 := c31.below hb
      replace c49 := c49.below hb
      replace c51 := c51.below hb
      clear hb
      go_wp2_with fail
      refine (plus7_v c51.num c52.num).mono ?_; rintro e_ w17 ⟨v53, rfl, hn, hb⟩
      have c53 := hn.can (k := 9) ⟨by decide +kernel⟩ (by omega)
      replace hB := hB.trans (hb.mono hB.size)
      replace hk2 := hk2.keep hb
      replace r31 := r31.below hb
      replace c31 := c31.below hb
      replace c49 := c49.below hb
      replace c51 := c51.below hb
      replace c52 := c52.below hb
      clear hb hn
      go_wp2_with (refine wpList_lit rfl 29 64 _ rfl Tryz.underlying29 info32e 8 rfl ?_)
      intro w18 hl hb
      have c54 := (NatRes.lit (c := 8) hl (Nat.zero_le _) (by omega) (by omega)).can (k := 1) (by exact ⟨by decide +kernel⟩) (by omega)
      obtain ⟨v54, hv54⟩ : ∃ v, v = Value.slice (some ⟨w17.heap.size, 0, none⟩) 1 1 := ⟨_, rfl⟩
      rw [← hv54] at c54 ⊢
      clear hv54 hl
      replace hB := hB.trans (hb.mono hB.size)
      replace hk2 := hk2.keep hb
      replace r31 := r31.below hb
      replace c31 := c31.below hb
      replace c49 := c49.below hb
      replace c51 := c51.below hb
      replace c52 := c52.below hb
      replace c53 := c53.below hb
      clear hb
      go_wp2_with fail
      refine (divide_v c53.num c54.num (by decide)).mono ?_; rintro e_ w19 ⟨vq_, vr_, rfl, hn, _, hb⟩
      have cq := hn.can (k := 9) ⟨by decide +kernel⟩ (by omega)
      replace hB := hB.trans (hb.mono hB.size)
      replace hk2 := hk2.keep hb
      replace r31 := r31.below hb
      replace c31 := c31.below hb
      replace c49 := c49.below hb
      replace c51 := c51.below hb
      replace c52 := c52.below hb
      replace c53 := c53.below hb
      replace c54 := c54.below hb
      clear hb hn
      clear c51
      clear c52
      clear c53
      clear c54
      go_wp2_with fail
      refine (rpow_f c49.num cq.num).mono ?_; rintro e_ w20 ⟨v60, rfl, hn, hb⟩
      have c60 := hn.fp
      have r60 := hn.mono (Nat.succ_le_of_lt hk2.lt)
      have ap31_60 := NatRes.apart r31 hn
      replace hB := hB.trans (hb.mono hB.size)
      replace hk2 := hk2.keep hb
      replace r31 := r31.below hb
      replace c31 := c31.below hb
      replace c49 := c49.below hb
      replace cq := cq.below hb
      clear hb hn
      obtain ⟨r0, hr0⟩ : ∃ r, r = fpow xx ((eP + 3) / 8) := ⟨_, rfl⟩
      rw [← hr0] at c60 r60
      have HR0 : Hid (r0 = eR0 y) := Lib.hid (by rw [hr0, HXX.out]; rfl)
      clear hr0
      have ap8_ := ap_flip ap31_60
      clear ap31_60
      clear cq
      go_wp2_with fail
      refine (rmul_f c60.num c60.num ).mono ?_; rintro e_ w21 ⟨v63, rfl, hn, hb⟩
      have c63 := hn.fp
      replace hB := hB.trans (hb.mono hB.size)
      replace hk2 := hk2.keep hb
      replace r31 := r31.below hb
      replace c31 := c31.below hb
      replace c49 := c49.below hb
      replace c60 := c60.below hb
      replace r60 := r60.below hb
      clear hb hn
      go_wp2_with fail
      by_cases hq_ : (r0 * r0) = xx
      · skip
        have h_ := cmp7_v c63.num c49.num
        rw [cmpI_eq (congrArg Fin.val hq_)] at h_
        have HQ0 : Hid (eR0 y * eR0 y = eXX y) := Lib.hid (by rw [← HR0.out, ← HXX.out]; exact hq_)
        clear hq_
        go_wp2_with fail
        refine h_.mono ?_; rintro e_ w_ ⟨rfl, rfl⟩
        clear h_
        clear c63
        obtain ⟨r1, rfl⟩ : ∃ r : Fp, r = r0 := ⟨_, rfl⟩
        have c8_ := c60
        have r8_ := r60
        clear c60 r60
        have HR1 : Hid (r1 = eR1 y) := Lib.hid (by rw [eR1_yes HQ0.out, HR0.out])
        obtain ⟨a8_, l8_, p8_, rfl, hl8⟩ := c8_.sliced0
        have HL8 := Lib.hid hl8
        clear hl8
        go_wp2_with fail
        refine (rmul_f c8_.num c8_.num ).mono ?_; rintro e_ w22 ⟨v72, rfl, hn, hb⟩
        have c72 := hn.fp
        replace hB := hB.trans (hb.mono hB.size)
        replace hk2 := hk2.keep hb
        replace r31 := r31.below hb
        replace c31 := c31.below hb
        replace c49 := c49.below hb
        replace c8_ := c8_.below hb
        replace r8_ := r8_.below hb
        clear hb hn
        by_cases hq_ : (r1 * r1) = xx
        · skip
          have h_ := cmp7_v c72.num c49.num
          rw [cmpI_eq (congrArg Fin.val hq_)] at h_
          have HQ : Hid (eR1 y * eR1 y = eXX y) := Lib.hid (by rw [← HR1.out, ← HXX.out]; exact hq_)
          clear hq_
          by_cases hz_ : r1 = 0
          · skip
            obtain rfl : l8_ = 0 := HL8.out.2 (by rw [hz_]; exact fp_zero)
            cases o with
            | true =>
              have HE : Hid (dr = none) := Lib.hid (by rw [HE0.out, HER.out, eRoot_no2 (by rw [← HR1.out]; exact hz_)]; rfl)
              clear hz_
              go_wp2_with fail
              refine h_.mono ?_; rintro e_ w_ ⟨rfl, rfl⟩
              clear h_
              go_wp2_with (refine wpList_store_agg rfl 31 _ _ rfl g2 31 [(.slice none 0 0), (.slice none 0 0), (.bool false)] [(.slice none 0 0), (.slice none 0 0), (.bool false)] rfl rfl hk2 size_pt (by intro v_ hv_; simp only [List.mem_cons, List.not_mem_nil, or_false] at hv_; rcases hv_ with rfl | rfl | rfl <;> rfl) rfl ?_)
              intro w23 hn hg
              replace hB := hB.grown hg hB.size (by intro k_ hk_; cases hk_; exact HG2.out)
              replace hk2 := hn
              clear r31
              clear c31
              clear c49
              clear c8_
              clear r8_
              clear c72
              clear hn hg
              go_wp2_with fail
              refine bodyPost_ret (results_agg_tmp rfl rfl hk2 Tryz.underlying31 rfl size_pt) rfl ?_
              rw [HE.out]
              exact ⟨rfl, hB⟩
            | false =>
              have hne2 : eOdd r1 = false := by rw [hz_]; decide +kernel
              have HE : Hid (dr = some (r1, y)) := Lib.hid (by rw [HE0.out, HER.out, eRoot_yes HQ.out (fun _ => rfl), ← HR1.out, if_pos hne2]; rfl)
              have h0_ : decide (r1.val % 2 = 1) = false := by rw [hz_, fp_zero]; rfl
              clear hz_ hne2
              go_wp2_with fail
              refine h_.mono ?_; rintro e_ w_ ⟨rfl, rfl⟩
              clear h_
              have b0 := bit70 c8_.num
              rw [h0_] at b0
              clear h0_
              go_wp2_with fail
              refine b0.mono ?_; rintro e_ w_ ⟨rfl, rfl⟩
              clear b0
              obtain ⟨a31_, n31_, p31_, rfl⟩ := c31.sliced
              go_wp2_with (refine wpList_store_agg rfl 31 _ _ rfl g2 31 [(.slice none 0 0), (.slice none 0 0), (.bool false)] [(.slice a8_ 0 p8_), (.slice a31_ n31_ p31_), (.bool false)] rfl rfl hk2 size_pt (by intro v_ hv_; simp only [List.mem_cons, List.not_mem_nil, or_false] at hv_; rcases hv_ with rfl | rfl | rfl <;> first | rfl | exact c8_.one_cell | exact c31.one_cell) rfl ?_)
              intro w23 hn hg
              replace hB := hB.grown hg hB.size (by intro k_ hk_; cases hk_; exact HG2.out)
              replace hk2 := hn
              replace r31 := r31.past hg
              clear c31
              clear c49
              clear c8_
              replace r8_ := r8_.past hg
              clear c72
              clear hn hg
              go_wp2_with fail
              refine bodyPost_ret (results_agg_tmp rfl rfl hk2 Tryz.underlying31 rfl size_pt) rfl ?_
              rw [HE.out]
              exact ⟨_, rfl, ⟨_, _, rfl, r8_.mono (Nat.le_succ_of_le HG2.out), r31.mono (Nat.le_succ_of_le HG2.out), ap8_⟩, hB⟩
          · skip
            have hl0 : ¬ l8_ = 0 := fun h => hz_ (fp_ext (by rw [HL8.out.1 h]; exact fp_zero.symm))
            have hl1 : ((l8_ : Int) == 0) = false := by simp; omega
            have HZ := Lib.hid hz_
            clear hz_
            go_wp2_with fail
            refine h_.mono ?_; rintro e_ w_ ⟨rfl, rfl⟩
            clear h_
            clear hl1
            have b0 := bit70 c8_.num
            obtain ⟨ob, hob⟩ : ∃ b, b = decide (r1.val % 2 = 1) := ⟨_, rfl⟩
            have HOB : Hid (ob = eOdd r1) := Lib.hid (by rw [hob]; unfold eOdd; by_cases h : r1.val % 2 = 1 <;> simp [h])
            rw [← hob] at b0
            clear hob
            cases ob with
            | true =>
              cases o with
              | true =>
                have HE : Hid (dr = some (r1, y)) := Lib.hid (by rw [HE0.out, HER.out, eRoot_yes HQ.out (fun h => absurd (by rw [HR1.out]; exact h) HZ.out), ← HR1.out, if_pos (by rw [← HOB.out])]; rfl)
                go_wp2_with fail
                refine b0.mono ?_; rintro e_ w_ ⟨rfl, rfl⟩
                clear b0
                obtain ⟨a31_, n31_, p31_, rfl⟩ := c31.sliced
                go_wp2_with (refine wpList_store_agg rfl 31 _ _ rfl g2 31 [(.slice none 0 0), (.slice none 0 0), (.bool false)] [(.slice a8_ l8_ p8_), (.slice a31_ n31_ p31_), (.bool false)] rfl rfl hk2 size_pt (by intro v_ hv_; simp only [List.mem_cons, List.not_mem_nil, or_false] at hv_; rcases hv_ with rfl | rfl | rfl <;> first | rfl | exact c8_.one_cell | exact c31.one_cell) rfl ?_)
                intro w23 hn hg
                replace hB := hB.grown hg hB.size (by intro k_ hk_; cases hk_; exact HG2.out)
                replace hk2 := hn
                replace r31 := r31.past hg
                clear c31
                clear c49
                clear c8_
                replace r8_ := r8_.past hg
                clear c72
                clear hn hg
                go_wp2_with fail
                refine bodyPost_ret (results_agg_tmp rfl rfl hk2 Tryz.underlying31 rfl size_pt) rfl ?_
                rw [HE.out]
                exact ⟨_, rfl, ⟨_, _, rfl, r8_.mono (Nat.le_succ_of_le HG2.out), r31.mono (Nat.le_succ_of_le HG2.out), ap8_⟩, hB⟩
              | false =>
                have HE : Hid (dr = some (0 - r1, y)) := Lib.hid (by rw [HE0.out, HER.out, eRoot_yes HQ.out (fun h => absurd (by rw [HR1.out]; exact h) HZ.out), ← HR1.out, if_neg (by rw [← HOB.out]; simp)]; rfl)
                go_wp2_with fail
                refine b0.mono ?_; rintro e_ w_ ⟨rfl, rfl⟩
                clear b0
                have mc_ := fun (W_ : World) (h1 : NumAt W_ (.slice a8_ l8_ p8_) r1.val) (vp_ : Value) (h2 : NumAt W_ vp_ eP) => fp_minus HZ.out ▸ minus7_v h2 h1 (Nat.le_of_lt r1.isLt)
                go_wp2_with fail
                refine (rP_c w22).mono ?_; rintro e_ w23 ⟨v89, rfl, c89, hb⟩
                replace hB := hB.trans (hb.mono hB.size)
                replace hk2 := hk2.keep hb
                replace r31 := r31.below hb
                replace c31 := c31.below hb
                replace c49 := c49.below hb
                replace c8_ := c8_.below hb
                replace r8_ := r8_.below hb
                replace c72 := c72.below hb
                clear hb
                go_wp2_with fail
                refine (mc_ w23 c8_.num _ c89.num).mono ?_; rintro e_ w24 ⟨v91, rfl, hn, hb⟩
                have c91 := hn.fp
                have r91 := hn.mono (Nat.succ_le_of_lt hk2.lt)
                have ap31_91 := NatRes.apart r31 hn
                replace hB := hB.trans (hb.mono hB.size)
                replace hk2 := hk2.keep hb
                replace r31 := r31.below hb
                replace c31 := c31.below hb
                replace c49 := c49.below hb
                replace c8_ := c8_.below hb
                replace r8_ := r8_.below hb
                replace c72 := c72.below hb
                replace c89 := c89.below hb
                clear hb hn
                have ap8b := ap_flip ap31_91
                obtain ⟨a91_, n91_, p91_, rfl⟩ := c91.sliced
                obtain ⟨a31_, n31_, p31_, rfl⟩ := c31.sliced
                go_wp2_with (refine wpList_store_agg rfl 31 _ _ rfl g2 31 [(.slice none 0 0), (.slice none 0 0), (.bool false)] [(.slice a91_ n91_ p91_), (.slice a31_ n31_ p31_), (.bool false)] rfl rfl hk2 size_pt (by intro v_ hv_; simp only [List.mem_cons, List.not_mem_nil, or_false] at hv_; rcases hv_ with rfl | rfl | rfl <;> first | rfl | exact c91.one_cell | exact c31.one_cell) rfl ?_)
                intro w25 hn hg
                replace hB := hB.grown hg hB.size (by intro k_ hk_; cases hk_; exact HG2.out)
                replace hk2 := hn
                replace r31 := r31.past hg
                clear c31
                clear c49
                clear c8_
                replace r8_ := r8_.past hg
                clear c72
                clear c89
                clear c91
                replace r91 := r91.past hg
                clear hn hg
                go_wp2_with fail
                refine bodyPost_ret (results_agg_tmp rfl rfl hk2 Tryz.underlying31 rfl size_pt) rfl ?_
                rw [HE.out]
                exact ⟨_, rfl, ⟨_, _, rfl, r91.mono (Nat.le_succ_of_le HG2.out), r31.mono (Nat.le_succ_of_le HG2.out), ap8b⟩, hB⟩
            | false =>
              cases o with
              | true =>
                have HE : Hid (dr = some (0 - r1, y)) := Lib.hid (by rw [HE0.out, HER.out, eRoot_yes HQ.out (fun h => absurd (by rw [HR1.out]; exact h) HZ.out), ← HR1.out, if_neg (by rw [← HOB.out]; simp)]; rfl)
                go_wp2_with fail
                refine b0.mono ?_; rintro e_ w_ ⟨rfl, rfl⟩
                clear b0
                have mc_ := fun (W_ : World) (h1 : NumAt W_ (.slice a8_ l8_ p8_) r1.val) (vp_ : Value) (h2 : NumAt W_ vp_ eP) => fp_minus HZ.out ▸ minus7_v h2 h1 (Nat.le_of_lt r1.isLt)
                go_wp2_with fail
                refine (rP_c w22).mono ?_; rintro e_ w23 ⟨v89, rfl, c89, hb⟩
                replace hB := hB.trans (hb.mono hB.size)
                replace hk2 := hk2.keep hb
                replace r31 := r31.below hb
                replace c31 := c31.below hb
                replace c49 := c49.below hb
                replace c8_ := c8_.below hb
                replace r8_ := r8_.below hb
                replace c72 := c72.below hb
                clear hb
                go_wp2_with fail
                refine (mc_ w23 c8_.num _ c89.num).mono ?_; rintro e_ w24 ⟨v91, rfl, hn, hb⟩
                have c91 := hn.fp
                have r91 := hn.mono (Nat.succ_le_of_lt hk2.lt)
                have ap31_91 := NatRes.apart r31 hn
                replace hB := hB.trans (hb.mono hB.size)
                replace hk2 := hk2.keep hb
                replace r31 := r31.below hb
                replace c31 := c31.below hb
                replace c49 := c49.below hb
                replace c8_ := c8_.below hb
                replace r8_ := r8_.below hb
                replace c72 := c72.below hb
                replace c89 := c89.below hb
                clear hb hn
                have ap8b := ap_flip ap31_91
                obtain ⟨a91_, n91_, p91_, rfl⟩ := c91.sliced
                obtain ⟨a31_, n31_, p31_, rfl⟩ := c31.sliced
                go_wp2_with (refine wpList_store_agg rfl 31 _ _ rfl g2 31 [(.slice none 0 0), (.slice none 0 0), (.bool false)] [(.slice a91_ n91_ p91_), (.slice a31_ n31_ p31_), (.bool false)] rfl rfl hk2 size_pt (by intro v_ hv_; simp only [List.mem_cons, List.not_mem_nil, or_false] at hv_; rcases hv_ with rfl | rfl | rfl <;> first | rfl | exact c91.one_cell | exact c31.one_cell) rfl ?_)
                intro w25 hn hg
                replace hB := hB.grown hg hB.size (by intro k_ hk_; cases hk_; exact HG2.out)
                replace hk2 := hn
                replace r31 := r31.past hg
                clear c31
                clear c49
                clear c8_
                replace r8_ := r8_.past hg
                clear c72
                clear c89
                clear c91
                replace r91 := r91.past hg
                clear hn hg
                go_wp2_with fail
                refine bodyPost_ret (results_agg_tmp rfl rfl hk2 Tryz.underlying31 rfl size_pt) rfl ?_
                rw [HE.out]
                exact ⟨_, rfl, ⟨_, _, rfl, r91.mono (Nat.le_succ_of_le HG2.out), r31.mono (Nat.le_succ_of_le HG2.out), ap8b⟩, hB⟩
              | false =>
                have HE : Hid (dr = some (r1, y)) := Lib.hid (by rw [HE0.out, HER.out, eRoot_yes HQ.out (fun h => absurd (by rw [HR1.out]; exact h) HZ.out), ← HR1.out, if_pos (by rw [← HOB.out])]; rfl)
                go_wp2_with fail
                refine b0.mono ?_; rintro e_ w_ ⟨rfl, rfl⟩
                clear b0
                obtain ⟨a31_, n31_, p31_, rfl⟩ := c31.sliced
                go_wp2_with (refine wpList_store_agg rfl 31 _ _ rfl g2 31 [(.slice none 0 0), (.slice none 0 0), (.bool false)] [(.slice a8_ l8_ p8_), (.slice a31_ n31_ p31_), (.bool false)] rfl rfl hk2 size_pt (by intro v_ hv_; simp only [List.mem_cons, List.not_mem_nil, or_false] at hv_; rcases hv_ with rfl | rfl | rfl <;> first | rfl | exact c8_.one_cell | exact c31.one_cell) rfl ?_)
                intro w23 hn hg
                replace hB := hB.grown hg hB.size (by intro k_ hk_; cases hk_; exact HG2.out)
                replace hk2 := hn
                replace r31 := r31.past hg
                clear c31
                clear c49
                clear c8_
                replace r8_ := r8_.past hg
                clear c72
                clear hn hg
                go_wp2_with fail
                refine bodyPost_ret (results_agg_tmp rfl rfl hk2 Tryz.underlying31 rfl size_pt) rfl ?_
                rw [HE.out]
                exact ⟨_, rfl, ⟨_, _, rfl, r8_.mono (Nat.le_succ_of_le HG2.out), r31.mono (Nat.le_succ_of_le HG2.out), ap8_⟩, hB⟩
        · skip
          obtain ⟨ck, hck⟩ : ∃ c, c = cmpI ((r1 * r1)).val (xx).val := ⟨_, rfl⟩
          have hne : (ck != 0) = true := by rw [hck]; simpa using cmpI_ne_ (fun h => hq_ (fp_ext h))
          have h_ := cmp7_v c72.num c49.num
          rw [← hck] at h_
          clear hck
          have HE : Hid (dr = none) := Lib.hid (by rw [HE0.out, HER.out, eRoot_no1 (by rw [← HR1.out, ← HXX.out]; exact hq_)]; rfl)
          clear hq_
          go_wp2_with fail
          refine h_.mono ?_; rintro e_ w_ ⟨rfl, rfl⟩
          clear h_
          go_wp2_with (refine wpList_store_agg rfl 31 _ _ rfl g2 31 [(.slice none 0 0), (.slice none 0 0), (.bool false)] [(.slice none 0 0), (.slice none 0 0), (.bool false)] rfl rfl hk2 size_pt (by intro v_ hv_; simp only [List.mem_cons, List.not_mem_nil, or_false] at hv_; rcases hv_ with rfl | rfl | rfl <;> rfl) rfl ?_)
          intro w23 hn hg
          replace hB := hB.grown hg hB.size (by intro k_ hk_; cases hk_; exact HG2.out)
          replace hk2 := hn
          clear r31
          clear c31
          clear c49
          clear c8_
          clear r8_
          clear c72
          clear hn hg
          go_wp2_with fail
          refine bodyPost_ret (results_agg_tmp rfl rfl hk2 Tryz.underlying31 rfl size_pt) rfl ?_
          rw [HE.out]
          exact ⟨rfl, hB⟩
      · skip
        obtain ⟨ck, hck⟩ : ∃ c, c = cmpI ((r0 * r0)).val (xx).val := ⟨_, rfl⟩
        have hne : (ck != 0) = true := by rw [hck]; simpa using cmpI_ne_ (fun h => hq_ (fp_ext h))
        have h_ := cmp7_v c63.num c49.num
        rw [← hck] at h_
        clear hck
        have HQ0 : Hid (eR0 y * eR0 y ≠ eXX y) := Lib.hid (by rw [← HR0.out, ← HXX.out]; exact hq_)
        clear hq_
        go_wp2_with fail
        refine h_.mono ?_; rintro e_ w_ ⟨rfl, rfl⟩
        clear h_
        clear c63
        go_wp2_with fail
        refine (rroot_c w21).mono ?_; rintro e_ w22 ⟨v68, rfl, c68, hb⟩
        replace hB := hB.trans (hb.mono hB.size)
        replace hk2 := hk2.keep hb
        replace r31 := r31.below hb
        replace c31 := c31.below hb
        replace c49 := c49.below hb
        replace c60 := c60.below hb
        replace r60 := r60.below hb
        clear hb
        go_wp2_with fail
        refine (rmul_f c60.num c68.num ).mono ?_; rintro e_ w23 ⟨v69, rfl, hn, hb⟩
        have c69 := hn.fp
        have r69 := hn.mono (Nat.succ_le_of_lt hk2.lt)
        have ap31_69 := NatRes.apart r31 hn
        replace hB := hB.trans (hb.mono hB.size)
        replace hk2 := hk2.keep hb
        replace r31 := r31.below hb
        replace c31 := c31.below hb
        replace c49 := c49.below hb
        replace c60 := c60.below hb
        replace r60 := r60.below hb
        replace c68 := c68.below hb
        clear hb hn
        obtain ⟨r1, hr1⟩ : ∃ r : Fp, r = r0 * eI := ⟨_, rfl⟩
        rw [← hr1] at c69 r69
        have HR1_ := Lib.hid hr1
        clear hr1 c60 r60 ap8_
        have c8_ := c69
        have r8_ := r69
        have ap8_ := ap_flip ap31_69
        clear c69 r69 ap31_69
        clear c68
        have HR1 : Hid (r1 = eR1 y) := Lib.hid (by rw [eR1_no HQ0.out, HR1_.out, HR0.out])
        obtain ⟨a8_, l8_, p8_, rfl, hl8⟩ := c8_.sliced0
        have HL8 := Lib.hid hl8
        clear hl8
        go_wp2_with fail
        refine (rmul_f c8_.num c8_.num ).mono ?_; rintro e_ w24 ⟨v72, rfl, hn, hb⟩
        have c72 := hn.fp
        replace hB := hB.trans (hb.mono hB.size)
        replace hk2 := hk2.keep hb
        replace r31 := r31.below hb
        replace c31 := c31.below hb
        replace c49 := c49.below hb
        replace c8_ := c8_.below hb
        replace r8_ := r8_.below hb
        clear hb hn
        by_cases hq_ : (r1 * r1) = xx
        · skip
          have h_ := cmp7_v c72.num c49.num
          rw [cmpI_eq (congrArg Fin.val hq_)] at h_
          have HQ : Hid (eR1 y * eR1 y = eXX y) := Lib.hid (by rw [← HR1.out, ← HXX.out]; exact hq_)
          clear hq_
          by_cases hz_ : r1 = 0
          · skip
            obtain rfl : l8_ = 0 := HL8.out.2 (by rw [hz_]; exact fp_zero)
            cases o with
            | true =>
              have HE : Hid (dr = none) := Lib.hid (by rw [HE0.out, HER.out, eRoot_no2 (by rw [← HR1.out]; exact hz_)]; rfl)
              clear hz_
              go_wp2_with fail
              refine h_.mono ?_; rintro e_ w_ ⟨rfl, rfl⟩
              clear h_
              go_wp2_with (refine wpList_store_agg rfl 31 _ _ rfl g2 31 [(.slice none 0 0), (.slice none 0 0), (.bool false)] [(.slice none 0 0), (.slice none 0 0), (.bool false)] rfl rfl hk2 size_pt (by intro v_ hv_; simp only [List.mem_cons, List.not_mem_nil, or_false] at hv_; rcases hv_ with rfl | rfl | rfl <;> rfl) rfl ?_)
              intro w25 hn hg
              replace hB := hB.grown hg hB.size (by intro k_ hk_; cases hk_; exact HG2.out)
              replace hk2 := hn
              clear r31
              clear c31
              clear c49
              clear c8_
              clear r8_
              clear c72
              clear hn hg
              go_wp2_with fail
              refine bodyPost_ret (results_agg_tmp rfl rfl hk2 Tryz.underlying31 rfl size_pt) rfl ?_
              rw [HE.out]
              exact ⟨rfl, hB⟩
            | false =>
              have hne2 : eOdd r1 = false := by rw [hz_]; decide +kernel
              have HE : Hid (dr = some (r1, y)) := Lib.hid (by rw [HE0.out, HER.out, eRoot_yes HQ.out (fun _ => rfl), ← HR1.out, if_pos hne2]; rfl)
              have h0_ : decide (r1.val % 2 = 1) = false := by rw [hz_, fp_zero]; rfl
              clear hz_ hne2
              go_wp2_with fail
              refine h_.mono ?_; rintro e_ w_ ⟨rfl, rfl⟩
              clear h_
              have b0 := bit70 c8_.num
              rw [h0_] at b0
              clear h0_
              go_wp2_with fail
              refine b0.mono ?_; rintro e_ w_ ⟨rfl, rfl⟩
              clear b0
              obtain ⟨a31_, n31_, p31_, rfl⟩ := c31.sliced
              go_wp2_with (refine wpList_store_agg rfl 31 _ _ rfl g2 31 [(.slice none 0 0), (.slice none 0 0), (.bool false)] [(.slice a8_ 0 p8_), (.slice a31_ n31_ p31_), (.bool false)] rfl rfl hk2 size_pt (by intro v_ hv_; simp only [List.mem_cons, List.not_mem_nil, or_false] at hv_; rcases hv_ with rfl | rfl | rfl <;> first | rfl | exact c8_.one_cell | exact c31.one_cell) rfl ?_)
              intro w25 hn hg
              replace hB := hB.grown hg hB.size (by intro k_ hk_; cases hk_; exact HG2.out)
              replace hk2 := hn
              replace r31 := r31.past hg
              clear c31
              clear c49
              clear c8_
              replace r8_ := r8_.past hg
              clear c72
              clear hn hg
              go_wp2_with fail
              refine bodyPost_ret (results_agg_tmp rfl rfl hk2 Tryz.underlying31 rfl size_pt) rfl ?_
              rw [HE.out]
              exact ⟨_, rfl, ⟨_, _, rfl, r8_.mono (Nat.le_succ_of_le HG2.out), r31.mono (Nat.le_succ_of_le HG2.out), ap8_⟩, hB⟩
          · skip
            have hl0 : ¬ l8_ = 0 := fun h => hz_ (fp_ext (by rw [HL8.out.1 h]; exact fp_zero.symm))
            have hl1 : ((l8_ : Int) == 0) = false := by simp; omega
            have HZ := Lib.hid hz_
            clear hz_
            go_wp2_with fail
            refine h_.mono ?_; rintro e_ w_ ⟨rfl, rfl⟩
            clear h_
            clear hl1
            have b0 := bit70 c8_.num
            obtain ⟨ob, hob⟩ : ∃ b, b = decide (r1.val % 2 = 1) := ⟨_, rfl⟩
            have HOB : Hid (ob = eOdd r1) := Lib.hid (by rw [hob]; unfold eOdd; by_cases h : r1.val % 2 = 1 <;> simp [h])
            rw [← hob] at b0
            clear hob
            cases ob with
            | true =>
              cases o with
              | true =>
                have HE : Hid (dr = some (r1, y)) := Lib.hid (by rw [HE0.out, HER.out, eRoot_yes HQ.out (fun h => absurd (by rw [HR1.out]; exact h) HZ.out), ← HR1.out, if_pos (by rw [← HOB.out])]; rfl)
                go_wp2_with fail
                refine b0.mono ?_; rintro e_ w_ ⟨rfl, rfl⟩
                clear b0
                obtain ⟨a31_, n31_, p31_, rfl⟩ := c31.sliced
                go_wp2_with (refine wpList_store_agg rfl 31 _ _ rfl g2 31 [(.slice none 0 0), (.slice none 0 0), (.bool false)] [(.slice a8_ l8_ p8_), (.slice a31_ n31_ p31_), (.bool false)] rfl rfl hk2 size_pt (by intro v_ hv_; simp only [List.mem_cons, List.not_mem_nil, or_false] at hv_; rcases hv_ with rfl | rfl | rfl <;> first | rfl | exact c8_.one_cell | exact c31.one_cell) rfl ?_)
                intro w25 hn hg
                replace hB := hB.grown hg hB.size (by intro k_ hk_; cases hk_; exact HG2.out)
                replace hk2 := hn
                replace r31 := r31.past hg
                clear c31
                clear c49
                clear c8_
                replace r8_ := r8_.past hg
                clear c72
                clear hn hg
                go_wp2_with fail
                refine bodyPost_ret (results_agg_tmp rfl rfl hk2 Tryz.underlying31 rfl size_pt) rfl ?_
                rw [HE.out]
                exact ⟨_, rfl, ⟨_, _, rfl, r8_.mono (Nat.le_succ_of_le HG2.out), r31.mono (Nat.le_succ_of_le HG2.out), ap8_⟩, hB⟩
              | false =>
                have HE : Hid (dr = some (0 - r1, y)) := Lib.hid (by rw [HE0.out, HER.out, eRoot_yes HQ.out (fun h => absurd (by rw [HR1.out]; exact h) HZ.out), ← HR1.out, if_neg (by rw [← HOB.out]; simp)]; rfl)
                go_wp2_with fail
                refine b0.mono ?_; rintro e_ w_ ⟨rfl, rfl⟩
                clear b0
                have mc_ := fun (W_ : World) (h1 : NumAt W_ (.slice a8_ l8_ p8_) r1.val) (vp_ : Value) (h2 : NumAt W_ vp_ eP) => fp_minus HZ.out ▸ minus7_v h2 h1 (Nat.le_of_lt r1.isLt)
                go_wp2_with fail
                refine (rP_c w24).mono ?_; rintro e_ w25 ⟨v89, rfl, c89, hb⟩
                replace hB := hB.trans (hb.mono hB.size)
                replace hk2 := hk2.keep hb
                replace r31 := r31.below hb
                replace c31 := c31.below hb
                replace c49 := c49.below hb
                replace c8_ := c8_.below hb
                replace r8_ := r8_.below hb
                replace c72 := c72.below hb
                clear hb
                go_wp2_with fail
                refine (mc_ w25 c8_.num _ c89.num).mono ?_; rintro e_ w26 ⟨v91, rfl, hn, hb⟩
                have c91 := hn.fp
                have r91 := hn.mono (Nat.succ_le_of_lt hk2.lt)
                have ap31_91 := NatRes.apart r31 hn
                replace hB := hB.trans (hb.mono hB.size)
                replace hk2 := hk2.keep hb
                replace r31 := r31.below hb
                replace c31 := c31.below hb
                replace c49 := c49.below hb
                replace c8_ := c8_.below hb
                replace r8_ := r8_.below hb
                replace c72 := c72.below hb
                replace c89 := c89.below hb
                clear hb hn
                have ap8b := ap_flip ap31_91
                obtain ⟨a91_, n91_, p91_, rfl⟩ := c91.sliced
                obtain ⟨a31_, n31_, p31_, rfl⟩ := c31.sliced
                go_wp2_with (refine wpList_store_agg rfl 31 _ _ rfl g2 31 [(.slice none 0 0), (.slice none 0 0), (.bool false)] [(.slice a91_ n91_ p91_), (.slice a31_ n31_ p31_), (.bool false)] rfl rfl hk2 size_pt (by intro v_ hv_; simp only [List.mem_cons, List.not_mem_nil, or_false] at hv_; rcases hv_ with rfl | rfl | rfl <;> first | rfl | exact c91.one_cell | exact c31.one_cell) rfl ?_)
                intro w27 hn hg
                replace hB := hB.grown hg hB.size (by intro k_ hk_; cases hk_; exact HG2.out)
                replace hk2 := hn
                replace r31 := r31.past hg
                clear c31
                clear c49
                clear c8_
                replace r8_ := r8_.past hg
                clear c72
                clear c89
                clear c91
                replace r91 := r91.past hg
                clear hn hg
                go_wp2_with fail
                refine bodyPost_ret (results_agg_tmp rfl rfl hk2 Tryz.underlying31 rfl size_pt) rfl ?_
                rw [HE.out]
                exact ⟨_, rfl, ⟨_, _, rfl, r91.mono (Nat.le_succ_of_le HG2.out), r31.mono (Nat.le_succ_of_le HG2.out), ap8b⟩, hB⟩
            | false =>
              cases o with
              | true =>
                have HE : Hid (dr = some (0 - r1, y)) := Lib.hid (by rw [HE0.out, HER.out, eRoot_yes HQ.out (fun h => absurd (by rw [HR1.out]; exact h) HZ.out), ← HR1.out, if_neg (by rw [← HOB.out]; simp)]; rfl)
                go_wp2_with fail
                refine b0.mono ?_; rintro e_ w_ ⟨rfl, rfl⟩
                clear b0
                have mc_ := fun (W_ : World) (h1 : NumAt W_ (.slice a8_ l8_ p8_) r1.val) (vp_ : Value) (h2 : NumAt W_ vp_ eP) => fp_minus HZ.out ▸ minus7_v h2 h1 (Nat.le_of_lt r1.isLt)
                go_wp2_with fail
                refine (rP_c w24).mono ?_; rintro e_ w25 ⟨v89, rfl, c89, hb⟩
                replace hB := hB.trans (hb.mono hB.size)
                replace hk2 := hk2.keep hb
                replace r31 := r31.below hb
                replace c31 := c31.below hb
                replace c49 := c49.below hb
                replace c8_ := c8_.below hb
                replace r8_ := r8_.below hb
                replace c72 := c72.below hb
                clear hb
                go_wp2_with fail
                refine (mc_ w25 c8_.num _ c89.num).mono ?_; rintro e_ w26 ⟨v91, rfl, hn, hb⟩
                have c91 := hn.fp
                have r91 := hn.mono (Nat.succ_le_of_lt hk2.lt)
                have ap31_91 := NatRes.apart r31 hn
                replace hB := hB.trans (hb.mono hB.size)
                replace hk2 := hk2.keep hb
                replace r31 := r31.below hb
                replace c31 := c31.below hb
                replace c49 := c49.below hb
                replace c8_ := c8_.below hb
                replace r8_ := r8_.below hb
                replace c72 := c72.below hb
                replace c89 := c89.below hb
                clear hb hn
                have ap8b := ap_flip ap31_91
                obtain ⟨a91_, n91_, p91_, rfl⟩ := c91.sliced
                obtain ⟨a31_, n31_, p31_, rfl⟩ := c31.sliced
                go_wp2_with (refine wpList_store_agg rfl 31 _ _ rfl g2 31 [(.slice none 0 0), (.slice none 0 0), (.bool false)] [(.slice a91_ n91_ p91_), (.slice a31_ n31_ p31_), (.bool false)] rfl rfl hk2 size_pt (by intro v_ hv_; simp only [List.mem_cons, List.not_mem_nil, or_false] at hv_; rcases hv_ with rfl | rfl | rfl <;> first | rfl | exact c91.one_cell | exact c31.one_cell) rfl ?_)
                intro w27 hn hg
                replace hB := hB.grown hg hB.size (by intro k_ hk_; cases hk_; exact HG2.out)
                replace hk2 := hn
                replace r31 := r31.past hg
                clear c31
                clear c49
                clear c8_
                replace r8_ := r8_.past hg
                clear c72
                clear c89
                clear c91
                replace r91 := r91.past hg
                clear hn hg
                go_wp2_with fail
                refine bodyPost_ret (results_agg_tmp rfl rfl hk2 Tryz.underlying31 rfl size_pt) rfl ?_
                rw [HE.out]
                exact ⟨_, rfl, ⟨_, _, rfl, r91.mono (Nat.le_succ_of_le HG2.out), r31.mono (Nat.le_succ_of_le HG2.out), ap8b⟩, hB⟩
              | false =>
                have HE : Hid (dr = some (r1, y)) := Lib.hid (by rw [HE0.out, HER.out, eRoot_yes HQ.out (fun h => absurd (by rw [HR1.out]; exact h) HZ.out), ← HR1.out, if_pos (by rw [← HOB.out])]; rfl)
                go_wp2_with fail
                refine b0.mono ?_; rintro e_ w_ ⟨rfl, rfl⟩
                clear b0
                obtain ⟨a31_, n31_, p31_, rfl⟩ := c31.sliced
                go_wp2_with (refine wpList_store_agg rfl 31 _ _ rfl g2 31 [(.slice none 0 0), (.slice none 0 0), (.bool false)] [(.slice a8_ l8_ p8_), (.slice a31_ n31_ p31_), (.bool false)] rfl rfl hk2 size_pt (by intro v_ hv_; simp only [List.mem_cons, List.not_mem_nil, or_false] at hv_; rcases hv_ with rfl | rfl | rfl <;> first | rfl | exact c8_.one_cell | exact c31.one_cell) rfl ?_)
                intro w25 hn hg
                replace hB := hB.grown hg hB.size (by intro k_ hk_; cases hk_; exact HG2.out)
                replace hk2 := hn
                replace r31 := r31.past hg
                clear c31
                clear c49
                clear c8_
                replace r8_ := r8_.past hg
                clear c72
                clear hn hg
                go_wp2_with fail
                refine bodyPost_ret (results_agg_tmp rfl rfl hk2 Tryz.underlying31 rfl size_pt) rfl ?_
                rw [HE.out]
                exact ⟨_, rfl, ⟨_, _, rfl, r8_.mono (Nat.le_succ_of_le HG2.out), r31.mono (Nat.le_succ_of_le HG2.out), ap8_⟩, hB⟩
        · skip
          obtain ⟨ck, hck⟩ : ∃ c, c = cmpI ((r1 * r1)).val (xx).val := ⟨_, rfl⟩
          have hne : (ck != 0) = true := by rw [hck]; simpa using cmpI_ne_ (fun h => hq_ (fp_ext h))
          have h_ := cmp7_v c72.num c49.num
          rw [← hck] at h_
          clear hck
          have HE : Hid (dr = none) := Lib.hid (by rw [HE0.out, HER.out, eRoot_no1 (by rw [← HR1.out, ← HXX.out]; exact hq_)]; rfl)
          clear hq_
          go_wp2_with fail
          refine h_.mono ?_; rintro e_ w_ ⟨rfl, rfl⟩
          clear h_
          go_wp2_with (refine wpList_store_agg rfl 31 _ _ rfl g2 31 [(.slice none 0 0), (.slice none 0 0), (.bool false)] [(.slice none 0 0), (.slice none 0 0), (.bool false)] rfl rfl hk2 size_pt (by intro v_ hv_; simp only [List.mem_cons, List.not_mem_nil, or_false] at hv_; rcases hv_ with rfl | rfl | rfl <;> rfl) rfl ?_)
          intro w25 hn hg
          replace hB := hB.grown hg hB.size (by intro k_ hk_; cases hk_; exact HG2.out)
          replace hk2 := hn
          clear r31
          clear c31
          clear c49
          clear c8_
          clear r8_
          clear c72
          clear hn hg
          go_wp2_with fail
          refine bodyPost_ret (results_agg_tmp rfl rfl hk2 Tryz.underlying31 rfl size_pt) rfl ?_
          rw [HE.out]
          exact ⟨rfl, hB⟩
    · skip
      have HE : Hid (dr = none) := Lib.hid (by rw [HDR.out]; exact decB_big (by rw [← HYN.out]; exact hy))
      obtain ⟨cj, hcj⟩ : ∃ c, c = cmpI yn eP := ⟨_, rfl⟩
      have hdc : decide ((0 : Int) ≤ cj) = true := decide_eq_true (by rw [hcj]; exact cmpI_ge_ hy)
      have HCJ := Lib.hid hcj
      clear hy hcj ylim
      go_wp2_with fail
      refine (rP_c w4).mono ?_; rintro e_ w5 ⟨v33, rfl, c33, hb⟩
      replace hB := hB.trans (hb.mono hB.size)
      replace hk2 := hk2.keep hb
      replace r31 := r31.below hb
      replace c31 := c31.below hb
      clear hb
      have h_ := cmp7_v c31.num c33.num
      rw [← HCJ.out] at h_
      go_wp2_with fail
      refine (h_).mono ?_; rintro e_ w6 ⟨rfl, rfl⟩
      go_wp2_with (refine wpList_store_agg rfl 31 _ _ rfl g2 31 [(.slice none 0 0), (.slice none 0 0), (.bool false)] [(.slice none 0 0), (.slice none 0 0), (.bool false)] rfl rfl hk2 size_pt (by intro v_ hv_; simp only [List.mem_cons, List.not_mem_nil, or_false] at hv_; rcases hv_ with rfl | rfl | rfl <;> rfl) rfl ?_)
      intro w6 hn hg
      replace hB := hB.grown hg hB.size (by intro k_ hk_; cases hk_; exact HG2.out)
      replace hk2 := hn
      replace r31 := r31.past hg
      clear c31
      clear c33
      clear hn hg
      go_wp2_with fail
      refine bodyPost_ret (results_agg_tmp rfl rfl hk2 Tryz.underlying31 rfl size_pt) rfl ?_
      rw [HE.out]
      exact ⟨rfl, hB⟩
  · skip
    have HE : Hid (dr = none) := Lib.hid (by rw [HDR.out]; exact decB_len h32)
    have g1 : ((xs.length : Int) != 32) = true := by simp; omega
    clear h32 hl
    go_enter Tryz.func22, Tryz.ntmps22
    have hB := Below.refl w.heap.size w
    go_wp2_with (refine wpList_alloc_agg rfl 31 rfl [(.slice none 0 0), (.slice none 0 0), (.bool false)] 3 (by kernel_rfl) ?_)
    intro w1 hk2 hb
    have hz_ := hB.size
    replace hB := hB.trans (hb.mono hB.size)
    clear hb
    obtain ⟨g2, hg_⟩ : ∃ g, g = w.heap.size := ⟨_, rfl⟩
    rw [← hg_] at hk2 ⊢
    have HG2 : Hid (w.heap.size ≤ g2) := Lib.hid (by rw [hg_]; exact hz_)
    clear hg_ hz_
    go_wp2_with (refine wpList_store_agg rfl 31 _ _ rfl g2 31 [(.slice none 0 0), (.slice none 0 0), (.bool false)] [(.slice none 0 0), (.slice none 0 0), (.bool false)] rfl rfl hk2 size_pt (by intro v_ hv_; simp only [List.mem_cons, List.not_mem_nil, or_false] at hv_; rcases hv_ with rfl | rfl | rfl <;> rfl) rfl ?_)
    intro w2 hn hg
    replace hB := hB.grown hg hB.size (by intro k_ hk_; cases hk_; exact HG2.out)
    replace hk2 := hn
    clear hn hg
    go_wp2_with fail
    refine bodyPost_ret (results_agg_tmp rfl rfl hk2 Tryz.underlying31 rfl size_pt) rfl ?_
    rw [HE.out]
    exact ⟨rfl, hB⟩
end Go.Proofs.YtlolkighnnedfaaGreatDoor
