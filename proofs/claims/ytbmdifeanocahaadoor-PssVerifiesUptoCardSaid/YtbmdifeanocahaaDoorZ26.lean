import Derived.Test.YtbmdifeanocahaaDoorZ13
import Derived.Test.YtbmdifeanocahaaDoorZ5
import Derived.Test.YtbmdifeanocahaaDoorZ8
import Derived.Test.YtbmdifeanocahaaDoorZ21
import Derived.BigRegion
/- signetref10: Number, bits, fixed, by their contracts. -/
set_option linter.unusedVariables false
set_option linter.unusedSimpArgs false
namespace Go.Sg
open Go.RowKit
theorem or_lo {x c : Nat} {r : Nat} (hr : r < 4) (hx : x < 256 ^ r) (hc : c < 256) :
    bits .or .u32 (x : Int) ((c : Int) * 2 ^ (8 * r) % 4294967296) = ((x + c * 256 ^ r : Nat) : Int) ∧ x + c * 256 ^ r < 4294967296 := by
  have key : ∀ (m : Nat) (e : (2 : Int) ^ (8 * r) = (m : Int)) (em : 256 ^ r = m), c * m < 4294967296 → x < 4294967296 → x + c * m < 4294967296 → c * m ||| x = c * m + x →
      bits .or .u32 (x : Int) ((c : Int) * 2 ^ (8 * r) % 4294967296) = ((x + c * 256 ^ r : Nat) : Int) ∧ x + c * 256 ^ r < 4294967296 := by
    intro m e em h1 h0 h2 h3
    rw [e, em, ← Int.natCast_mul, show ((c * m : Nat) : Int) % 4294967296 = ((c * m : Nat) : Int) by omega, u32_or_nat _ _ h0 h1, Nat.or_comm, h3]
    exact ⟨by omega, h2⟩
  rcases (show r = 0 ∨ r = 1 ∨ r = 2 ∨ r = 3 by omega) with rfl | rfl | rfl | rfl
  · obtain rfl : x = 0 := by simpa using hx
    exact key 1 rfl rfl (by omega) (by omega) (by omega) (by simp)
  · replace hx : x < 256 := hx
    exact key 256 rfl rfl (by omega) (by omega) (by omega) (nat_join 8 _ _ (by omega) (by omega))
  · replace hx : x < 65536 := hx
    exact key 65536 rfl rfl (by omega) (by omega) (by omega) (nat_join 16 _ _ (by omega) (by omega))
  · replace hx : x < 16777216 := hx
    exact key 16777216 rfl rfl (by omega) (by omega) (by omega) (nat_join 24 _ _ (by omega) (by omega))
/-- How the number looks after i bytes, from the last. -/
def NbInv (bs L : List Int) (i : Nat) : Prop := val L = bval (bs.drop (bs.length - i))
theorem NbInv.start (bs : List Int) (n : Nat) : NbInv bs (List.replicate n 0) 0 := by
  unfold NbInv
  rw [val_zeros, Nat.sub_zero, List.drop_length]
  rfl
theorem NbInv.done {bs L : List Int} (h : NbInv bs L bs.length) : val L = bval bs := by
  unfold NbInv at h
  rw [Nat.sub_self] at h
  exact h
theorem bval_cons (x : Int) (xs : List Int) : bval (x :: xs) = x.toNat * 256 ^ xs.length + bval xs := by
  rw [show x :: xs = [x] ++ xs from rfl, bval_append]
  simp [bval]
theorem NbInv.step {bs L : List Int} {i : Nat} (h : NbInv bs L i) (ub : U8 bs) (uL : U32 L) (hi : i < bs.length) (p : Nat) (hp : p = bs.length - 1 - i) (hq : i / 4 < L.length) :
    ∃ y, bits .or .u32 (nth L (i / 4)) (nth bs p * 2 ^ (8 * (i % 4)) % 4294967296) = y ∧ 0 ≤ y ∧ y ≤ 4294967295 ∧ NbInv bs (L.set (i / 4) y) (i + 1) := by
  have hc := ub p
  have lt : val L < 256 ^ i := by
    unfold NbInv at h
    rw [h]
    have := bval_lt (ub.drop (by omega) (bs.length - i))
    rwa [List.length_drop, show bs.length - (bs.length - i) = i by omega] at this
  have hx : lb L (i / 4) < 256 ^ (i % 4) := by
    rw [lb_val uL]
    refine Nat.lt_of_le_of_lt (Nat.mod_le _ _) ?_
    rw [Nat.div_lt_iff_lt_mul (Nat.pow_pos R_pos), R_pow_256, ← Nat.pow_add, show i % 4 + 4 * (i / 4) = i by omega]
    exact lt
  have hj := or_lo (c := lb bs p) (show i % 4 < 4 by omega) hx (by unfold lb; omega)
  rw [lb_cast uL, show ((lb bs p : Nat) : Int) = nth bs p by unfold lb; omega] at hj
  refine ⟨_, rfl, ?_, ?_, ?_⟩
  · rw [hj.1]; omega
  · rw [hj.1]; omega
  · have e1 := val_set L (i / 4) (bits .or .u32 (nth L (i / 4)) (nth bs p * 2 ^ (8 * (i % 4)) % 4294967296)) hq
    rw [hj.1, Int.toNat_natCast, Nat.mul_add] at e1
    unfold NbInv at h ⊢
    rw [hj.1]
    have e3 : R ^ (i / 4) * (lb bs p * 256 ^ (i % 4)) = lb bs p * 256 ^ i := by
      rw [R_pow_256, Nat.mul_comm, Nat.mul_assoc, ← Nat.pow_add, show i % 4 + 4 * (i / 4) = i by omega]
    rw [e3] at e1
    have ed : bs.drop (bs.length - (i + 1)) = nth bs p :: bs.drop (bs.length - i) := by
      rw [show bs.length - (i + 1) = p by omega, List.drop_eq_getElem_cons (by omega), show p + 1 = bs.length - i by omega, nth_get bs p (by omega)]
    rw [ed, bval_cons, List.length_drop, show bs.length - (bs.length - i) = i by omega, ← h]
    unfold lb at e1 ⊢
    omega
end Go.Sg
namespace Go.Proofs.YtbmdifeanocahaaDoor
open Go.RowKit Go.Sg

set_option maxHeartbeats 1000000 in
theorem Number_c (a : Option Addr) (cap : Nat) (bs : List Int) (w : World) (hc : Sl .u8 w a cap bs) (ub : U8 bs) (hl : bs.length ≤ 2097152) :
    Calls Tryd.prog 60 #[.slice a bs.length cap] w (NatPost (bval bs) w) := by
  go_enter Tryd.func60, Tryd.ntmps60
  obtain ⟨n, hn⟩ : ∃ n, n = (bs.length + 3) / 4 := ⟨_, rfl⟩
  have E4 : Hid (((bs.length : Int) + 3) / 4 = (n : Int)) := Lib.hid (by omega)
  have hn1 : 4 * n ≤ bs.length + 3 := by omega
  have Hn := Lib.hid hn
  clear hn
  go_wp2_with (at_make; refine wpList_make_blk _ rfl _ _ 38 rfl 51 .u32 4 Tryd.underlying38 info32 n _ _ rfl rfl E4.out E4.out (by omega) (by omega) ?_)
  intro w1 hk1 hs1 hb1
  have hs := Lib.hid hs1
  clear hs1
  go_wp2_with fail
  go_loopw [4] (fun t wr => ∃ i : Nat, i ≤ bs.length ∧ t = .int .i64 (i : Int) ∧ ∃ L, Blk wr w.heap.size .u32 51 L ∧ L.length = n ∧ U32 L ∧ NbInv bs L i ∧ Below w.heap.size w wr)
    (fun t _ => bs.length - (intOf t).toNat)
  case atStart => exact ⟨0, by omega, rfl, _, hk1, by simp, .zeros (by omega) _, .start _ _, hb1⟩
  case round =>
    obtain ⟨i, hi, rfl, L, hL, hLn, hu, hF, hb⟩ := hrel
    have HLn := Lib.hid hLn; clear hLn
    by_cases hlt : i < bs.length
    · obtain ⟨p, hp⟩ : ∃ p, p = bs.length - 1 - i := ⟨_, rfl⟩
      obtain ⟨b, off, rfl, hcc⟩ := hc.cells (by omega)
      have hcb : wr.cell? ⟨b, off + p, none⟩ = some (.int .u8 (nth bs p)) := (hb.cell (World.block_lt_of_cell? w _ (hcc p (by omega)))).trans (hcc p (by omega))
      have hbi := ub p
      have eat : ((bs.length : Int) - 1 - (i : Int)) = (p : Int) := by omega
      have hq : i / 4 < L.length := by have := HLn.out; have := Hn.out; omega
      have hcl := hL.cell (i / 4) hq
      have hfr := hL.free (i / 4)
      have hln : i / 4 < n := by have := HLn.out; omega
      have hpl : (p : Int) < (bs.length : Int) := by omega
      have hul := hu (i / 4)
      have HS := Lib.hid (hF.step ub hu hlt p hp hq)
      have Hp := Lib.hid hp
      clear hcc hp hq
      go_wp2_with fail
      go_region
      all_goals go_wp2
      go_roundw
      case rel =>
        obtain ⟨y, hy, y0, y1, hF'⟩ := HS.out
        rw [hy]
        exact ⟨i + 1, by omega, by go_num, L.set (i / 4) y, hL.set _ _, by have := HLn.out; simpa using this, hu.set _ y0 y1, hF', (hb.setCell (Nat.le_refl _) _).drew⟩
      case measure => simp [intOf]; omega
    · obtain rfl : i = bs.length := by omega
      have hv := Lib.hid hF.done
      have HS : Hid (Sl .u32 wr (some ⟨w.heap.size, 0, none⟩) n L) := Lib.hid (by have e := HLn.out; have := hL.sl_full (by rw [e]; omega); rwa [e] at this)
      have nv := NumAt.of HS.out hu (by rw [HLn.out]; omega)
      rw [HLn.out, hv.out] at nv
      clear hF
      go_wp2_with fail
      refine (trim_v nv).mono ?_; rintro e w' ⟨v, rfl, hr, hb2⟩
      go_wp2_with fail
      go_ret
      exact ⟨v, rfl, hr.mono hb.size, hb.trans (hb2.mono hb.size)⟩
theorem nlim {bs : List Int} {k : Nat} (u : U8 bs) (h : bs.length ≤ 4 * k) : Lim k (bval bs) := ⟨by
  rw [R_pow_256]
  exact Nat.lt_of_lt_of_le (bval_lt u) (Nat.pow_le_pow_right (by decide) h)⟩
theorem Number_can {a : Option Addr} {cap : Nat} {bs : List Int} {W : World} (s : Sl .u8 W a cap bs) (u : U8 bs) (hl : bs.length ≤ 2097152) : Calls Tryd.prog 60 #[.slice a bs.length cap] W (CanPost (bval bs) W) :=
  (Number_c a cap bs W s u hl).mono fun e w' hp => hp.can (nlim (k := 524288) u (by omega)) (by omega)

theorem bit_top10 {n k : Nat} (h : n < 2 ^ (k + 1)) (h1 : n / 2 ^ k % 2 = 1) : bl n = k + 1 := by
  refine bl_unique ?_ h
  refine Nat.not_lt.1 fun h2 => ?_
  rw [Nat.div_eq_of_lt h2] at h1
  simp at h1
theorem bit_low10 {n k : Nat} (h : n < 2 ^ (k + 1)) (h1 : ¬ n / 2 ^ k % 2 = 1) : n < 2 ^ k := by
  have h2 : n / 2 ^ k < 2 := by rw [Nat.div_lt_iff_lt_mul (Nat.pow_pos (by decide))]; rwa [Nat.pow_succ, Nat.mul_comm] at h
  refine Nat.not_le.1 fun h3 => h1 ?_
  have : 0 < n / 2 ^ k := Nat.div_pos h3 (Nat.pow_pos (by decide))
  omega

set_option maxHeartbeats 1000000 in
theorem bits10_c (a : Option Addr) (cap : Nat) (zs : List Int) (w : World) (hc : Sl .u32 w a cap zs) (ux : U32 zs) (hl : zs.length ≤ 17592186044415) :
    Calls Tryd.prog 62 #[.slice a zs.length cap] w fun e w' => e = .returned (.int .i64 (bl (val zs))) ∧ w = w' := by
  have bc := fun (i : Nat) (h : i ≤ 9223372036854775807) => bit7_v (NumAt.of hc ux hl) i h
  obtain ⟨n, hn⟩ : ∃ n, n = val zs := ⟨_, rfl⟩
  have hv : n < 2 ^ (32 * zs.length) := by rw [hn, ← Rpow_two]; exact val_lt ux
  rw [← hn] at bc ⊢
  obtain ⟨l, hl1⟩ : ∃ l, l = zs.length := ⟨_, rfl⟩
  rw [← hl1] at bc hl hv ⊢
  clear hn hl1 hc ux
  go_enter Tryd.func62, Tryd.ntmps62
  go_wp2_with fail
  go_loop [3] (fun t => ∃ k : Nat, k ≤ 32 * l ∧ t = .int .i64 (k : Int) ∧ n < 2 ^ k) (fun t => (intOf t).toNat)
  case atStart => exact ⟨32 * l, Nat.le_refl _, by go_num, hv⟩
  case round =>
    obtain ⟨k, hk, rfl, hnk⟩ := hrel
    by_cases hk0 : k = 0
    · subst hk0
      have hz : Hid (bl n = 0) := Lib.hid (by
        have : n = 0 := by simpa using hnk
        rw [this]; rfl)
      clear hv hnk
      go_wp2_with fail
      go_ret
      exact ⟨by rw [hz.out]; rfl, rfl⟩
    · obtain ⟨k, rfl⟩ : ∃ j, k = j + 1 := ⟨k - 1, by omega⟩
      have hp : (0 : Int) < ((k + 1 : Nat) : Int) := by omega
      have hd : decide ((0 : Int) < ((k + 1 : Nat) : Int)) = true := decide_eq_true hp
      have b1 := bc k (by omega)
      by_cases h0 : n / 2 ^ k % 2 = 1
      · have hz : Hid (bl n = k + 1) := Lib.hid (bit_top10 hnk h0)
        rw [decide_eq_true h0] at b1
        clear hv hnk h0 bc
        go_wp2_with fail
        refine b1.mono ?_; rintro e w' ⟨rfl, rfl⟩
        clear b1
        go_wp2_with fail
        go_ret
        exact ⟨by rw [hz.out]; rfl, rfl⟩
      · have hn2 := bit_low10 hnk h0
        rw [decide_eq_false h0] at b1
        have NK := Lib.hid hn2
        clear hnk hn2 h0 bc hv
        go_wp2_with fail
        refine b1.mono ?_; rintro e w' ⟨rfl, rfl⟩
        clear b1
        go_wp2_with fail
        go_round
        case rel => exact ⟨k, by omega, by go_num, NK.out⟩
        case measure => simp [intOf]
theorem bits10_v {v : Value} {n : Nat} {W : World} (h : NumAt W v n) : Calls Tryd.prog 62 #[v] W fun e w' => e = .returned (.int .i64 (bl n)) ∧ W = w' := by
  obtain ⟨a, c, zs, rfl, s, u, rfl, hl⟩ := h
  exact bits10_c _ _ _ _ s u hl

/-- The bytes that are laid so far, from the last. -/
def FxInv (n size : Nat) (F : List Int) (i : Nat) : Prop := F.length = size ∧ (∀ k, k < size → nth F (size - 1 - k) = if k < i then ((byt n k : Nat) : Int) else 0) ∧ n % 256 ^ i < 256 ^ size
theorem byt_mod (n i : Nat) : n % 256 ^ (i + 1) = n % 256 ^ i + 256 ^ i * byt n i := by
  unfold byt
  rw [Nat.pow_succ, Nat.mod_mul]
theorem FxInv.start (n size : Nat) : FxInv n size (List.replicate size 0) 0 := by
  refine ⟨List.length_replicate, fun k hk => ?_, ?_⟩
  · rw [nth_replicate0, if_neg (by omega)]
  · rw [Nat.pow_zero, Nat.mod_one]; exact Nat.pow_pos (by decide)
theorem FxInv.lay {n size i : Nat} {F : List Int} (h : FxInv n size F i) (hi : i < size) : FxInv n size (F.set (size - 1 - i) ((byt n i : Nat) : Int)) (i + 1) := by
  obtain ⟨h1, h2, h3⟩ := h
  refine ⟨by rw [List.length_set, h1], fun k hk => ?_, ?_⟩
  · rw [nth_set _ _ _ _ (by omega)]
    by_cases e : k = i
    · subst e
      rw [if_pos rfl, if_pos (by omega)]
    · rw [if_neg (by omega), h2 k hk]
      by_cases hl : k < i
      · rw [if_pos hl, if_pos (by omega)]
      · rw [if_neg hl, if_neg (by omega)]
  · exact Nat.lt_of_lt_of_le (Nat.mod_lt _ (Nat.pow_pos (by decide))) (Nat.pow_le_pow_right (by decide) (by omega))
theorem FxInv.over {n size i : Nat} {F : List Int} (h : FxInv n size F i) (hi : size ≤ i) (h0 : byt n i = 0) : FxInv n size F (i + 1) := by
  obtain ⟨h1, h2, h3⟩ := h
  refine ⟨h1, fun k hk => ?_, ?_⟩
  · rw [h2 k hk, if_pos (by omega), if_pos (by omega)]
  · rw [byt_mod, h0, Nat.mul_zero, Nat.add_zero]; exact h3
theorem FxInv.done {n size i : Nat} {F : List Int} (h : FxInv n size F i) (hn : n < 256 ^ i) : F = beN n size ∧ n < 256 ^ size := by
  obtain ⟨h1, h2, h3⟩ := h
  rw [Nat.mod_eq_of_lt hn] at h3
  refine ⟨ext_nth _ _ (by rw [h1, beN_len]) fun j hj => ?_, h3⟩
  rw [nth_beN (by omega)]
  have e := h2 (size - 1 - j) (by omega)
  rw [show size - 1 - (size - 1 - j) = j by omega] at e
  rw [e]
  by_cases hl : size - 1 - j < i
  · rw [if_pos hl]
  · rw [if_neg hl]
    have : byt n (size - 1 - j) = 0 := by
      unfold byt
      rw [Nat.div_eq_of_lt (Nat.lt_of_lt_of_le hn (Nat.pow_le_pow_right (by decide) (by omega))), Nat.zero_mod]
    rw [this]; rfl
theorem byt_nofit {n size i : Nat} (hi : size ≤ i) (h0 : byt n i ≠ 0) : ¬ n < 256 ^ size := fun h => h0 (by
  unfold byt
  rw [Nat.div_eq_of_lt (Nat.lt_of_lt_of_le h (Nat.pow_le_pow_right (by decide) hi)), Nat.zero_mod])
theorem blen_le_iff (n k : Nat) : blen n ≤ k ↔ n < 256 ^ k := by
  have h := bl_le_iff n (8 * k)
  rw [Nat.pow_mul] at h
  unfold blen
  rw [show (256 : Nat) ^ k = (2 ^ 8) ^ k from rfl, ← h]
  omega
theorem fitB_iff (n size : Nat) (hs : size ≤ 16384) : fitB n (size : Int) = decide (n < 256 ^ size) := by
  unfold fitB
  refine decide_eq_decide.2 ?_
  rw [← blen_le_iff]
  omega

set_option maxHeartbeats 4000000 in
set_option maxRecDepth 20000 in
theorem fixed10_c (a : Option Addr) (cap : Nat) (zs : List Int) (size : Nat) (w : World) (hc : Sl .u32 w a cap zs) (ux : U32 zs) (hl : zs.length ≤ 17592186044415) (hs : size ≤ 16384) :
    Calls Tryd.prog 63 #[.slice a zs.length cap, .int .i64 (size : Int)] w (FixedPost (val zs) (size : Int) w) := by
  have BT := fun i => byt_limb ux i
  obtain ⟨n, hn⟩ : ∃ n, n = val zs := ⟨_, rfl⟩
  have hv : n < 256 ^ (4 * zs.length) := by rw [hn, ← R_pow_256]; exact val_lt ux
  rw [← hn] at BT ⊢
  obtain ⟨l, hl1⟩ : ∃ l, l = zs.length := ⟨_, rfl⟩
  have HV := Lib.hid hv
  have HL := Lib.hid hl1
  rw [← hl1] at hl ⊢
  clear hv hl1 hn
  go_enter Tryd.func63, Tryd.ntmps63
  go_wp2_with (at_make; refine wpList_make_blk _ rfl _ _ 23 rfl 5 .u8 1 Tryd.underlying23 info8 size _ _ rfl rfl rfl rfl (by omega) (by omega) ?_)
  intro w1 hk1 hs1 hb1
  have HS1 := Lib.hid hs1
  clear hs1
  go_wp2_with fail
  go_loopw [7] (fun t wr => ∃ i : Nat, i ≤ 4 * l ∧ t = .int .i64 (i : Int) ∧ ∃ F, Blk wr w.heap.size .u8 5 F ∧ FxInv n size F i ∧ Below w.heap.size w wr)
    (fun t _ => 4 * l - (intOf t).toNat)
  case atStart => exact ⟨0, by omega, rfl, _, hk1, .start _ _, hb1⟩
  case round =>
    obtain ⟨i, hi, rfl, F, hL, hF, hb⟩ := hrel
    have HF := Lib.hid hF
    have lF := Lib.hid hF.1
    clear hF hk1 hb1
    by_cases hlt : i < 4 * l
    · have hd1 : decide ((i : Int) < 4 * (l : Int)) = true := decide_eq_true (by omega)
      have hlt2 : (i : Int) < 4 * (l : Int) := by omega
      obtain ⟨q, hq⟩ : ∃ q, q = i / 4 := ⟨_, rfl⟩
      obtain ⟨r, hr⟩ : ∃ r, r = i % 4 := ⟨_, rfl⟩
      have Eq : (i : Int) / 4 = (q : Int) := by omega
      have Er : (i : Int) % 4 = (r : Int) := by omega
      have r4 : r < 4 := by omega
      obtain ⟨b, off, rfl, hcc⟩ := (hc.below hb).cells (by have := HL.out; omega)
      have hcb := hcc q (by have := HL.out; omega)
      have hql : (q : Int) < (l : Int) := by omega
      have bt := BT i
      rw [← hq, ← hr] at bt
      have lx := lb_lt ux q
      rw [← lb_cast ux q] at hcb
      obtain ⟨x, hx⟩ : ∃ x, x = lb zs q := ⟨_, rfl⟩
      rw [← hx] at hcb bt lx
      unfold R at lx
      obtain ⟨y, hy⟩ : ∃ y, y = byt n i := ⟨_, rfl⟩
      rw [← hy] at bt
      have HY := Lib.hid hy
      have BY := Lib.hid bt
      clear hcc hx hq hr hy bt
      have hb8 : bits .and .u32 ((x : Int) / 2 ^ (8 * r)) 255 % 256 = (y : Int) := by
        have lz : x / 2 ^ (8 * r) < 4294967296 := Nat.lt_of_le_of_lt (Nat.div_le_self _ _) lx
        have h1 := and255 (x / 2 ^ (8 * r)) lz
        rw [IntKind.wrap_u8', ← BY.out] at h1
        rw [← h1]
        congr 2 <;> (push_cast; rfl)
      have y255 : y < 256 := by rw [HY.out]; exact byt_lt _ _
      by_cases his : i < size
      · have hd2 : decide ((i : Int) < (size : Int)) = true := decide_eq_true (by omega)
        have his2 : (i : Int) < (size : Int) := by omega
        obtain ⟨p, hp⟩ : ∃ p, p = size - 1 - i := ⟨_, rfl⟩
        have ep : ((size : Int) - 1 - (i : Int)) = (p : Int) := by omega
        have hcl := hL.cell p (by rw [lF.out]; omega)
        have hfr := hL.free p
        have hpl : (p : Int) < (size : Int) := by omega
        have hL2 := hL.set p (y : Int)
        have hb2 := hb.setCell (p := ⟨w.heap.size, p, none⟩) (Nat.le_refl _) (.int .u8 (y : Int))
        have HF2 : Hid (FxInv n size (F.set p (y : Int)) (i + 1)) := Lib.hid (by rw [hp, HY.out]; exact HF.out.lay his)
        clear hp hL hb HF lF BY his hd1
        go_wp2_with fail
        go_roundw
        case rel => exact ⟨i + 1, by omega, by go_num, F.set p (y : Int), hL2, HF2.out, hb2⟩
        case measure => simp [intOf]; omega
      · have hd2 : decide ((i : Int) < (size : Int)) = false := decide_eq_false (by omega)
        have his2 : ¬ (i : Int) < (size : Int) := by omega
        have hd2n : decide (i < size) = false := decide_eq_false his
        by_cases hy0 : y = 0
        · have HF2 : Hid (FxInv n size F (i + 1)) := Lib.hid (HF.out.over (by omega) (by rw [← HY.out]; exact hy0))
          rw [hy0, show ((0 : Nat) : Int) = 0 from rfl] at hb8
          clear HF lF BY hd1 hy0 HY y255
          go_wp2_with fail
          go_roundw
          case rel => exact ⟨i + 1, by omega, by go_num, F, hL, HF2.out, hb⟩
          case measure => simp [intOf]; omega
        · have gy : ((y : Int) != 0) = true := by simp; omega
          have ft : fitB n (size : Int) = false := by rw [fitB_iff n size hs]; exact decide_eq_false (byt_nofit (i := i) (by omega) (by rw [← HY.out]; exact hy0))
          have FT := Lib.hid ft
          have y1 : ¬ (y : Int) = 0 := by omega
          have y2 : decide ((y : Int) = 0) = false := decide_eq_false y1
          clear HF lF BY hd1 ft
          go_wp2_with fail
          go_ret2
          exact FixedPost.no FT.out rfl hb
    · obtain rfl : 4 * l = i := by omega
      have hd1 : decide (4 * (l : Int) < 4 * (l : Int)) = false := by simp
      have dn := HF.out.done (by rw [HL.out]; exact HV.out)
      obtain ⟨rfl, hfit⟩ := dn
      have ft : fitB n (size : Int) = true := by rw [fitB_iff n size hs]; exact decide_eq_true hfit
      have FT := Lib.hid ft
      have hr := New.of_blk hL (Nat.le_refl _) size size (Nat.le_refl _) (by rw [beN_len]; exact Nat.le_refl _) (by omega)
      rw [List.take_of_length_le (by rw [beN_len]; exact Nat.le_refl _)] at hr
      clear hfit ft HF lF
      go_wp2_with fail
      go_ret2
      refine ⟨.slice (some ⟨w.heap.size, 0, none⟩) size size, by rw [FT.out]; rfl, ?_, hb⟩
      unfold fixL
      rw [FT.out, if_pos rfl, Int.toNat_natCast]
      exact hr
theorem fixed10_v {v : Value} {n : Nat} {W : World} (h : NumAt W v n) (size : Nat) (hs : size ≤ 16384) : Calls Tryd.prog 63 #[v, .int .i64 (size : Int)] W (FixedPost n (size : Int) W) := by
  obtain ⟨a, c, zs, rfl, s, u, rfl, hl⟩ := h
  exact fixed10_c _ _ _ size _ s u hl hs
end Go.Proofs.YtbmdifeanocahaaDoor
