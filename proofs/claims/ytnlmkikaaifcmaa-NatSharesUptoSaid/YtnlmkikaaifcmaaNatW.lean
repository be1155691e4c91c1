/- package nat: fill, Bytes, Fixed, Shl, Shr, by their contracts. -/
import Derived.Test.YtnlmkikaaifcmaaNatJ
set_option linter.unusedVariables false
set_option linter.unusedSimpArgs false
namespace Go.Sg
open Go.RowKit
/-- A number's byte of 256^i; its bytes, the most significant first. -/
def byt (n i : Nat) : Nat := n / 256 ^ i % 256
theorem byt_lt (n i : Nat) : byt n i < 256 := Nat.mod_lt _ (by decide)
def beN (n len : Nat) : List Int := (List.range len).map fun i => ((byt n (len - 1 - i) : Nat) : Int)
theorem beN_len (n len : Nat) : (beN n len).length = len := by simp [beN]
theorem nth_beN {n len i : Nat} (h : i < len) : nth (beN n len) i = ((byt n (len - 1 - i) : Nat) : Int) := by
  rw [nth_get _ _ (by rw [beN_len]; exact h)]
  simp [beN]
theorem beN_u8 (n len : Nat) : U8 (beN n len) := by
  intro i
  by_cases h : i < len
  · rw [nth_beN h]
    have := byt_lt n (len - 1 - i)
    omega
  · rw [nth_out _ _ (by rw [beN_len]; omega)]; omega
theorem byt_limb {zs : List Int} (uz : U32 zs) (i : Nat) : byt (val zs) i = lb zs (i / 4) / 2 ^ (8 * (i % 4)) % 256 := by
  unfold byt
  by_cases h : i / 4 < zs.length
  · have e1 := val_split zs (i / 4) (by omega)
    have e2 := val_drop zs (i / 4) h
    have h1 := val_take_lt uz (i / 4) (by omega)
    have h3 : 256 ^ i = R ^ (i / 4) * 2 ^ (8 * (i % 4)) := by rw [Rpow_two, ← Nat.pow_add, show (256 : Nat) = 2 ^ 8 from rfl, ← Nat.pow_mul]; congr 1; omega
    rw [e2] at e1
    rw [h3, ← Nat.div_div_eq_div_mul, e1, Nat.add_mul_div_left _ _ (Rpow_pos _), Nat.div_eq_of_lt h1, Nat.zero_add]
    have h4 : R = 2 ^ (8 * (i % 4)) * (256 * 2 ^ (24 - 8 * (i % 4))) := by
      rw [show (256 : Nat) = 2 ^ 8 from rfl, ← Nat.pow_add, ← Nat.pow_add, show 8 * (i % 4) + (8 + (24 - 8 * (i % 4))) = 32 by omega]; rfl
    rw [h4, Nat.mul_assoc, Nat.add_mul_div_left _ _ (Nat.pow_pos (by decide)), Nat.mul_assoc, Nat.add_mul_mod_self_left]
  · rw [lb, nth_out _ _ (by omega)]
    have h1 := val_lt uz
    have h2 : val zs < 256 ^ i := by
      refine Nat.lt_of_lt_of_le h1 ?_
      rw [R_pow_256]
      exact Nat.pow_le_pow_right (by decide) (by omega)
    rw [Nat.div_eq_of_lt h2]
    simp
theorem beN_next {n len i : Nat} {L : List Int} {x : Int} (hl : L.length = len) (hi : i < len) (h : L.take i = (beN n len).take i) (hx : x = ((byt n (len - 1 - i) : Nat) : Int)) : (L.set i x).take (i + 1) = (beN n len).take (i + 1) := by
  rw [take_set_succ _ _ _ (by omega), h, take_succ_nth _ _ (by rw [beN_len]; exact hi), nth_beN hi, hx]
/-- How many bytes a number has. -/
def blen (n : Nat) : Nat := (bl n + 7) / 8
theorem lt_blen (n : Nat) : n < 256 ^ blen n := by
  have h := lt_bl n
  refine Nat.lt_of_lt_of_le h ?_
  rw [show (256 : Nat) = 2 ^ 8 from rfl, ← Nat.pow_mul]
  exact Nat.pow_le_pow_right (by decide) (by unfold blen; omega)
end Go.Sg
namespace Go.Proofs.Ytnlmkikaaifcmaa
open Go.RowKit Go.Sg

def FillPost (g n len : Nat) (w : World) (e : Ending) (w' : World) : Prop := e = .returned (.tuple #[]) ∧ Blk w' g .u8 5 (beN n len) ∧ w.grownBy w' (some g)

set_option maxHeartbeats 2000000 in
theorem fill_c (g len cap : Nat) (L : List Int) (ax : Option Addr) (cx : Nat) (X : List Int) (w : World) (hB : Blk w g .u8 5 L) (hL : L.length = len) (hcap : len ≤ cap) (hmax : len ≤ 4611686018427387904)
    (hx : Sl .u32 w ax cx X) (ux : U32 X) (hap : ∀ b o, ax = some ⟨b, o, none⟩ → 0 < X.length → b ≠ g) :
    Calls Try.prog 37 #[.slice (some ⟨g, 0, none⟩) len cap, .slice ax X.length cx] w (FillPost g (val X) len w) := by
  have hxm := Nat.le_trans hx.le hx.max
  have HL0 := Lib.hid hL
  clear hL
  go_enter Try.func37, Try.ntmps37
  go_wp2_with fail
  go_loopw [8] (fun t wr => ∃ (i : Nat) (L' : List Int), i ≤ len ∧ t = .int .i64 (i : Int) ∧ Blk wr g .u8 5 L' ∧ L'.length = len ∧ L'.take i = (beN (val X) len).take i ∧ w.grownBy wr (some g))
    (fun t _ => len - (intOf t).toNat)
  case atStart => exact ⟨0, L, by omega, rfl, hB, HL0.out, rfl, rfl, rfl, rfl, Nat.le_refl _, fun _ _ _ => rfl⟩
  case round =>
    clear hB
    obtain ⟨i, L', hi, rfl, hB, hlen, htake, hgr⟩ := hrel
    have HL := Lib.hid hlen
    have HT := Lib.hid htake
    clear hlen htake
    by_cases hlt : i < len
    · obtain ⟨at_, hat⟩ : ∃ at_, at_ = len - 1 - i := ⟨_, rfl⟩
      have eat : ((len : Int) - 1 - (i : Int)) = (at_ : Int) := by omega
      have hlen1 : at_ < len := by omega
      have c1 := hB.cell i (by rw [HL.out]; exact hlt)
      have f1 := hB.free i
      have s1 := hB.set i 0
      have f2 := s1.free i
      have g1 := grownBy_trans hgr (grownBy_set wr ⟨g, i, none⟩ (.int .u8 0))
      have hin : (i : Int) < (len : Int) := by omega
      have hd : decide ((i : Int) < (len : Int)) = true := decide_eq_true hin
      have BY := Lib.hid (byt_limb ux at_)
      have AT := Lib.hid hat
      clear hat
      by_cases hq : at_ / 4 < X.length
      · have hq2 : (at_ : Int) / 4 < (X.length : Int) := by omega
        obtain ⟨b, off, rfl, hc⟩ := (hx.grown' g1 (fun b o e hp h2 => hap b o e hp (Option.some.inj h2))).cells (by omega)
        have cX := hc (at_ / 4) hq
        rw [← lb_cast ux (at_ / 4)] at cX
        have lX := lb_lt ux (at_ / 4)
        unfold R at lX
        obtain ⟨m, hm⟩ : ∃ m, m = lb X (at_ / 4) := ⟨_, rfl⟩
        rw [← hm] at cX lX BY
        have m0 : (0 : Int) ≤ (m : Int) := by omega
        have m4 : (m : Int) ≤ 4294967295 := by omega
        have c2 := s1.cell i (by rw [List.length_set, HL.out]; exact hlt)
        obtain ⟨y, hy⟩ : ∃ y, y = m / 2 ^ (8 * (at_ % 4)) % 256 := ⟨_, rfl⟩
        have y8 : y < 256 := by rw [hy]; exact Nat.mod_lt _ (by decide)
        have s2 := s1.set i (y : Int)
        have g2 := grownBy_trans g1 (grownBy_set _ ⟨g, i, none⟩ (.int .u8 (y : Int)))
        have fin : Hid (((L'.set i 0).set i (y : Int)).length = len ∧ ((L'.set i 0).set i (y : Int)).take (i + 1) = (beN (val X) len).take (i + 1)) := Lib.hid
          ⟨by rw [List.length_set, List.length_set, HL.out], by
            rw [List.set_set]
            exact beN_next HL.out hlt HT.out (by rw [← AT.out, BY.out, ← hy])⟩
        have HY := Lib.hid hy
        clear hm hy hc hB
        go_wp2_with fail
        have e0 : (m : Int) / 2 ^ (8 * (at_ % 4)) % 256 = (y : Int) := by
          rw [HY.out, Int.natCast_emod, Int.natCast_ediv, Int.natCast_pow]; rfl
        go_roundw
        case rel =>
          rw [e0]
          exact ⟨i + 1, _, by omega, by go_num, s2, fin.out.1, fin.out.2, g2⟩
        case measure => simp [intOf]; omega
      · have hq2 : ¬ (at_ : Int) / 4 < (X.length : Int) := by omega
        have fin : Hid ((L'.set i 0).length = len ∧ (L'.set i 0).take (i + 1) = (beN (val X) len).take (i + 1)) := Lib.hid
          ⟨by rw [List.length_set, HL.out], beN_next HL.out hlt HT.out (by rw [← AT.out, BY.out, lb, nth_out _ _ (by omega)]; simp)⟩
        go_wp2_with fail
        go_roundw
        case rel => exact ⟨i + 1, _, by omega, by go_num, s1, fin.out.1, fin.out.2, g1⟩
        case measure => simp [intOf]; omega
    · obtain rfl : i = len := by omega
      have hd : decide ((i : Int) < (i : Int)) = false := by simp
      go_wp2_with fail
      go_end0
      refine ⟨rfl, ?_, hgr⟩
      have := HT.out
      rw [List.take_of_length_le (by rw [HL.out]; omega), List.take_of_length_le (by rw [beN_len]; omega)] at this
      rwa [← this]

/-- Bytes in new memory. -/
def BytesRes (B : Nat) (w : World) (v : Value) (xs : List Int) : Prop := New B .u8 5 w v xs
def NBytesPost (xs : List Int) (w : World) (e : Ending) (w' : World) : Prop := ∃ v, e = .returned v ∧ New w.heap.size .u8 5 w' v xs ∧ Below w.heap.size w w'
theorem info8a : (Try.prog.info? 5).map (fun i => (i.zero, i.size, i.bytes)) = some (some (.int .u8 0), 1, 1) := info8

set_option maxHeartbeats 1000000 in
theorem Bytes_c (a : Option Addr) (cap : Nat) (zs : List Int) (w : World) (hc : Sl .u32 w a cap zs) (ux : U32 zs) (hl : zs.length ≤ 35184372088832) :
    Calls Try.prog 26 #[.slice a zs.length cap] w (NBytesPost (beN (val zs) (blen (val zs))) w) := by
  have hb := (bl_le_iff (val zs) (32 * zs.length)).2 (by rw [← Rpow_two]; exact val_lt ux)
  obtain ⟨k, hk⟩ : ∃ k, k = bl (val zs) := ⟨_, rfl⟩
  obtain ⟨n, hn⟩ : ∃ n, n = blen (val zs) := ⟨_, rfl⟩
  have hnk : n = (k + 7) / 8 := by rw [hn, hk]; rfl
  have bc := Bits_c a cap zs w hc ux (by omega)
  rw [← hk] at bc hb
  rw [← hn]
  have E8 : Hid (((k : Int) + 7) / 8 = (n : Int)) := Lib.hid (by omega)
  have n1 : n ≤ 140737488355328 := by omega
  have vx := val_norm zs
  have VX := Lib.hid vx
  have nx := length_norm zs
  have nx2 := topz_le zs
  have hlx : (norm zs).length ≤ zs.length := by omega
  clear hn hnk hk vx nx nx2
  go_enter Try.func26, Try.ntmps26
  go_wp2_with fail
  refine bc.mono ?_; rintro e w' ⟨rfl, rfl⟩
  clear bc
  go_wp2_with (at_make; refine wpList_make_blk _ rfl _ _ 44 rfl 5 .u8 1 Try.underlying44 info8 n _ _ rfl rfl E8.out E8.out (by omega) (by omega) ?_)
  intro w1 hk1 hs1 hb1
  have hc1 := hc.below hb1
  have vc := value_c a cap zs w1 hc1
  obtain ⟨g, hg⟩ : ∃ g, g = w.heap.size := ⟨_, rfl⟩
  rw [← hg] at hk1
  rw [← hg]
  have hge : w.heap.size ≤ g := by omega
  have fc := fill_c g n n _ a (norm zs).length (norm zs) w1 hk1 (by rw [List.length_replicate]) (Nat.le_refl _) (by omega)
    ((hc1.take (topz zs)).short) ux.norm (fun b o ha hp e => hc.apart (by omega) b o ha (by omega) (e.trans hg))
  rw [VX.out] at fc
  clear hc hc1 hk1 hg
  go_wp2_with fail
  refine vc.mono ?_; rintro e w' ⟨rfl, rfl⟩
  clear vc
  go_wp2_with fail
  refine fc.mono ?_; rintro e w3 ⟨rfl, hk3, hg3⟩
  clear fc
  have hb3 : Below w.heap.size w w3 := hb1.grown hg3 (by omega) (by simp; omega)
  go_wp2_with fail
  go_ret
  refine ⟨_, rfl, ?_, hb3⟩
  have := New.of_blk hk3 hge n n (Nat.le_refl _) (by rw [beN_len]; omega) (by omega)
  rwa [List.take_of_length_le (by rw [beN_len]; omega)] at this

/-- Whether a number fits in so many bytes, and the bytes. -/
def fitB (n : Nat) (size : Int) : Bool := decide (0 ≤ size ∧ size ≤ 16384 ∧ (blen n : Int) ≤ size)
def fixL (n : Nat) (size : Int) : List Int := if fitB n size = true then beN n size.toNat else []
def FixedPost (n : Nat) (size : Int) (w : World) (e : Ending) (w' : World) : Prop := ∃ v, e = .returned (.tuple #[v, .bool (fitB n size)]) ∧ New w.heap.size .u8 5 w' v (fixL n size) ∧ Below w.heap.size w w'
theorem FixedPost.no {n : Nat} {size : Int} {w w' : World} {e : Ending} (h : fitB n size = false) (he : e = .returned (.tuple #[.slice none 0 0, .bool false])) (hb : Below w.heap.size w w') : FixedPost n size w e w' := by
  refine ⟨_, by rw [h]; exact he, ?_, hb⟩
  unfold fixL
  rw [h]
  exact New.nil _ _ _ _

set_option maxHeartbeats 1000000 in
theorem Fixed_c (a : Option Addr) (cap : Nat) (zs : List Int) (size : Int) (w : World) (hc : Sl .u32 w a cap zs) (ux : U32 zs) (hl : zs.length ≤ 35184372088832) (hs : -9223372036854775808 ≤ size ∧ size ≤ 9223372036854775807) :
    Calls Try.prog 24 #[.slice a zs.length cap, .int .i64 size] w (FixedPost (val zs) size w) := by
  obtain ⟨hs1, hs2⟩ := hs
  have hb := (bl_le_iff (val zs) (32 * zs.length)).2 (by rw [← Rpow_two]; exact val_lt ux)
  obtain ⟨k, hk⟩ : ∃ k, k = bl (val zs) := ⟨_, rfl⟩
  have hB : blen (val zs) = (k + 7) / 8 := by rw [hk]; rfl
  have HB := Lib.hid hB
  have bc := Bits_c a cap zs w hc ux (by omega)
  rw [← hk] at bc hb
  have HK := Lib.hid hk
  clear hB hk
  by_cases h1 : size < 0
  · have hno := Lib.hid (show fitB (val zs) size = false from decide_eq_false (by omega))
    clear bc
    go_enter Try.func24, Try.ntmps24
    go_wp2_with fail
    go_ret2
    exact .no hno.out rfl (.refl _ _)
  · by_cases h2 : 16384 < size
    · have hno := Lib.hid (show fitB (val zs) size = false from decide_eq_false (by omega))
      have d1 : decide (size < 0) = false := decide_eq_false (by omega)
      have d2 : decide (16384 < size) = true := decide_eq_true (by omega)
      clear bc
      go_enter Try.func24, Try.ntmps24
      go_wp2_with fail
      go_ret2
      exact .no hno.out rfl (.refl _ _)
    · obtain ⟨m, rfl⟩ := Int.eq_ofNat_of_zero_le (show 0 ≤ size by omega)
      have d1 : decide ((m : Int) < 0) = false := decide_eq_false (by omega)
      have d2 : decide (16384 < (m : Int)) = false := decide_eq_false (by omega)
      by_cases h3 : m < (k + 7) / 8
      · have hno := Lib.hid (show fitB (val zs) m = false from decide_eq_false (by rw [HB.out]; omega))
        have d3 : decide ((m : Int) < ((k : Int) + 7) / 8) = true := decide_eq_true (by omega)
        go_enter Try.func24, Try.ntmps24
        go_wp2_with fail
        refine bc.mono ?_; rintro e w' ⟨rfl, rfl⟩
        clear bc
        go_wp2_with fail
        go_ret2
        exact .no hno.out rfl (.refl _ _)
      · have hyes := Lib.hid (show fitB (val zs) m = true from decide_eq_true (by rw [HB.out]; omega))
        have d3 : decide ((m : Int) < ((k : Int) + 7) / 8) = false := decide_eq_false (by omega)
        have vx := val_norm zs
        have VX := Lib.hid vx
        have nx := length_norm zs
        have nx2 := topz_le zs
        have hlx : (norm zs).length ≤ zs.length := by omega
        clear vx nx nx2
        go_enter Try.func24, Try.ntmps24
        go_wp2_with fail
        refine bc.mono ?_; rintro e w' ⟨rfl, rfl⟩
        clear bc
        go_wp2_with (at_make; refine wpList_make_blk _ rfl _ _ 44 rfl 5 .u8 1 Try.underlying44 info8 m _ _ rfl rfl rfl rfl (by omega) (by omega) ?_)
        intro w1 hk1 hs1 hb1
        have hc1 := hc.below hb1
        have vc := value_c a cap zs w1 hc1
        obtain ⟨g, hg⟩ : ∃ g, g = w.heap.size := ⟨_, rfl⟩
        rw [← hg] at hk1
        rw [← hg]
        have hge : w.heap.size ≤ g := by omega
        have fc := fill_c g m m _ a (norm zs).length (norm zs) w1 hk1 (by rw [List.length_replicate]) (Nat.le_refl _) (by omega)
          ((hc1.take (topz zs)).short) ux.norm (fun b o ha hp e => hc.apart (by omega) b o ha (by omega) (e.trans hg))
        rw [VX.out] at fc
        clear hc hc1 hk1 hg
        go_wp2_with fail
        refine vc.mono ?_; rintro e w' ⟨rfl, rfl⟩
        clear vc
        go_wp2_with fail
        refine fc.mono ?_; rintro e w3 ⟨rfl, hk3, hg3⟩
        clear fc
        have hb3 : Below w.heap.size w w3 := hb1.grown hg3 (by omega) (by simp; omega)
        go_wp2_with fail
        go_ret2
        refine ⟨_, by rw [hyes.out]; first | done | rfl, ?_, hb3⟩
        have := New.of_blk hk3 hge m m (Nat.le_refl _) (by rw [beN_len]; omega) (by omega)
        rw [List.take_of_length_le (by rw [beN_len]; omega)] at this
        unfold fixL
        rw [hyes.out, if_pos rfl]
        exact this

/-- How far a number is shifted. -/
def shK (k : Int) : Nat := (min (max k 0) 131072).toNat
theorem sub_tail (L : List Int) (q n : Nat) (h : L.length = q + n) : sub L q n = L.drop q := by
  rw [sub, List.take_of_length_le (by rw [List.length_drop]; omega)]
theorem take_zero {L : List Int} {q n : Nat} (h : ∀ j, j < q → nth L j = nth (List.replicate n 0) j) (hl : q ≤ L.length) (hn : q ≤ n) : L.take q = List.replicate q 0 := by
  apply List.ext_getElem
  · simp; omega
  · intro j h1 h2
    have h3 : j < q := by simp at h2; exact h2
    have e := h j h3
    rw [nth_get _ _ (by omega), nth_get _ _ (by simp; omega)] at e
    simpa using e

set_option maxHeartbeats 1000000 in
theorem Shl_c (a : Option Addr) (cap : Nat) (zs : List Int) (k : Int) (w : World) (hc : Sl .u32 w a cap zs) (ux : U32 zs) (hl : zs.length ≤ 35184372088000) (hk : -9223372036854775808 ≤ k ∧ k ≤ 9223372036854775807) :
    Calls Try.prog 21 #[.slice a zs.length cap, .int .i64 k] w (NatPost (val zs * 2 ^ shK k) w) := by
  obtain ⟨k1, k2⟩ := hk
  obtain ⟨s, hs⟩ : ∃ s, s = shK k := ⟨_, rfl⟩
  have hs0 : (s : Int) = min (max k 0) 131072 := by rw [hs]; unfold shK; omega
  have s1 : s ≤ 131072 := by omega
  rw [← hs]
  have HS := Lib.hid hs0
  clear hs
  have vc := value_c a cap zs w hc
  have VX := Lib.hid (val_norm zs)
  have hlx : (norm zs).length ≤ zs.length := by rw [length_norm]; exact topz_le zs
  obtain ⟨n, hn⟩ : ∃ n, n = (norm zs).length := ⟨_, rfl⟩
  have hX := (hc.take (topz zs)).short
  rw [show zs.take (topz zs) = norm zs from rfl] at hX
  have uX := ux.norm
  obtain ⟨X, hXe⟩ : ∃ X, X = norm zs := ⟨_, rfl⟩
  rw [← hXe] at hX uX VX vc hn hlx
  rw [← hn] at hX vc
  have HN := Lib.hid hn
  obtain ⟨q, hq⟩ : ∃ q, q = s / 32 := ⟨_, rfl⟩
  obtain ⟨r, hr⟩ : ∃ r, r = s % 32 := ⟨_, rfl⟩
  have hr2 : r < 32 := by omega
  have hsqr : s = 32 * q + r := by omega
  have HSQ := Lib.hid hsqr
  have Eq : Hid ((s : Int) / 32 = (q : Int)) := Lib.hid (by omega)
  have Er : Hid ((s : Int) % 32 = (r : Int)) := Lib.hid (by omega)
  have Q := Lib.hid hq.symm
  have hcut1 : (s : Int) / 32 ≤ (q : Int) + (n : Int) + 1 := by omega
  have hcut2 : s / 32 < q + n + 1 := by omega
  have hcut3 : ¬ q + n + 1 - s / 32 = 0 := by omega
  have hcut4 : ¬ q + n + 1 ≤ s / 32 := by omega
  have n1 : n ≤ 35184372088000 := by omega
  have q1 : q ≤ 4096 := by omega
  clear hs0 hn hXe hq hr hsqr
  go_enter Try.func21, Try.ntmps21
  go_wp2_with fail
  rw [← HS.out]
  refine vc.mono ?_; rintro e w' ⟨rfl, rfl⟩
  clear vc
  go_wp2_with (at_make; refine wpList_make_blk _ rfl _ _ 22 rfl 25 .u32 4 Try.underlying22 info32 (q + n + 1) _ _ rfl rfl (by rw [Eq.out]; omega) (by rw [Eq.out]; omega) (by omega) (by omega) ?_)
  intro w1 hk1 hs1 hb1
  have hX1 := hX.below hb1
  obtain ⟨g, hg⟩ : ∃ g, g = w.heap.size := ⟨_, rfl⟩
  rw [← hg] at hk1
  rw [← hg]
  have hge : w.heap.size ≤ g := by omega
  have uc := up_c g q (n + 1) (n + 1) r _ a n X w1 hk1 (.zeros (by omega) _) (by simp; omega) (Nat.le_refl _) hX1 uX (fun b o ha hp e => hX.apart (by omega) b o ha hp (e.trans hg)) (by simp; omega) hr2
  rw [← HN.out] at uc
  clear hX hX1 hk1 hg hs1 hc
  go_wp2_with fail
  rw [Er.out, Q.out, show q + n + 1 - q = n + 1 by omega]
  refine uc.mono ?_; rintro e w2 ⟨L, c, rfl, hk2, uL, lL, hother, hval, hg2⟩
  rw [List.length_replicate] at lL
  have hB2 : Below w.heap.size w w2 := hb1.grown hg2 hb1.size (by simp; omega)
  have lz : L.take q = List.replicate q 0 := take_zero (fun j hj => hother j (.inl hj)) (by omega) (by omega)
  have v1 : val X < R ^ n := by rw [HN.out]; exact val_lt uX
  have EL : Hid (val L = val zs * 2 ^ s) := Lib.hid (by
    rw [sub_tail L q (n + 1) (by omega), List.take_of_length_le (by rw [← HN.out]; omega)] at hval
    have hd := val_lt (uL.drop (by omega) q)
    rw [List.length_drop, lL, show q + n + 1 - q = n + 1 by omega] at hd
    have h2 : val X * 2 ^ r < R ^ (n + 1) := by
      rw [Rpow_succ, Nat.mul_comm R]
      exact Nat.mul_lt_mul_of_lt_of_le v1 (by rw [R, show (4294967296 : Nat) = 2 ^ 32 from rfl]; exact Nat.pow_le_pow_right (by decide) (by omega)) R_pos
    have e := no_carry hval h2
    rw [val_split L q (by omega), lz, val_zeros, Nat.zero_add, e, HSQ.out, Nat.pow_add, Rpow_two, VX.out, Nat.mul_left_comm])
  have LL := Lib.hid lL
  have SL : Hid (Sl .u32 w2 (some ⟨g, 0, none⟩) (q + n + 1) L) := Lib.hid (by have := hk2.sl_full (by rw [lL]; omega); rwa [lL] at this)
  clear uc hval hother lL lz hg2
  go_wp2_with fail
  rw [← LL.out]
  refine (proper_c _ _ L _ (by rw [LL.out]; exact SL.out)).mono ?_; rintro e w' ⟨rfl, rfl⟩
  go_wp2_with fail
  go_ret
  exact ⟨_, rfl, .of_blk hk2 hge uL EL.out (by rw [LL.out]; omega), hB2⟩

/-- How far a number is shifted down. -/
def shD (k : Int) : Nat := (max k 0).toNat

def DownPPost (g cap : Nat) (L : List Int) (s : Nat) (w : World) (e : Ending) (w' : World) : Prop :=
  ∃ L' : List Int, e = .returned (.tuple #[]) ∧ Pre w' g .u32 25 cap L' ∧ U32 L' ∧ L'.length = L.length ∧ val L' = val L / 2 ^ s ∧ w.grownBy w' (some g)

set_option maxHeartbeats 1000000 in
theorem downp_c (g cap s : Nat) (L : List Int) (w : World) (hB : Pre w g .u32 25 cap L) (uL : U32 L) (hcap : L.length ≤ cap) (hmax : L.length ≤ 4611686018427387904) (hs : s < 32) :
    Calls Try.prog 36 #[.slice (some ⟨g, 0, none⟩) L.length cap, .int .i64 (s : Int)] w (DownPPost g cap L s w) := by
  have hsi : (s : Int) < 32 := by omega
  have hsi0 : (0 : Int) ≤ (s : Int) := by omega
  go_enter Try.func36, Try.ntmps36
  go_wp2_with fail
  go_loopw [8] (fun t wr => ∃ (i : Nat) (L' : List Int), i ≤ L.length ∧ t = .int .i64 (i : Int) ∧ Pre wr g .u32 25 cap L' ∧ U32 L' ∧ L'.length = L.length ∧
      val L / 2 ^ s = val (L'.take i) + R ^ i * (val (L'.drop i) / 2 ^ s) ∧ w.grownBy wr (some g))
    (fun t _ => L.length - (intOf t).toNat)
  case atStart => exact ⟨0, L, by omega, rfl, hB, uL, rfl, by simp [val], rfl, rfl, rfl, Nat.le_refl _, fun _ _ _ => rfl⟩
  case round =>
    obtain ⟨i, L', hi, rfl, hB', uL', hlen, hval, hgr⟩ := hrel
    have HL := Lib.hid hlen
    have HV := Lib.hid hval
    clear hlen hval
    by_cases hlt : i < L.length
    · have hiL : i < L'.length := by have := HL.out; omega
      have hcl := hB'.cell i hiL
      have hfr := hB'.free i
      have hal := lb_lt uL' i
      have AC := Lib.hid (lb_cast uL' i)
      obtain ⟨a, ha⟩ : ∃ a, a = lb L' i := ⟨_, rfl⟩
      rw [← ha] at AC hal
      rw [← AC.out] at hcl
      have HA := Lib.hid ha
      obtain ⟨b, hb⟩ : ∃ b, b = lb L' (i + 1) := ⟨_, rfl⟩
      have hbl : b < R := by rw [hb]; exact lb_lt uL' (i + 1)
      obtain ⟨v, hv⟩ : ∃ v, v = (a + b * R) / 2 ^ s % R := ⟨_, rfl⟩
      have hvR : v < R := by rw [hv]; exact Nat.mod_lt _ R_pos
      have hab : a + b * R < 18446744073709551616 := by unfold R at *; omega
      have HV2 : Hid ((((a + b * R : Nat) : Int) / 2 ^ s) % 4294967296 = (v : Int)) := Lib.hid (by
        rw [hv, show ((2 : Int) ^ s) = ((2 ^ s : Nat) : Int) by rw [Int.natCast_pow]; rfl, ← Int.natCast_ediv]
        unfold R; omega)
      have fin : Hid (Pre (wr.setCell ⟨g, i, none⟩ (.int .u32 (v : Int))) g .u32 25 cap (L'.set i (v : Int)) ∧ U32 (L'.set i (v : Int)) ∧ (L'.set i (v : Int)).length = L.length ∧
          val L / 2 ^ s = val ((L'.set i (v : Int)).take (i + 1)) + R ^ (i + 1) * (val ((L'.set i (v : Int)).drop (i + 1)) / 2 ^ s) ∧ w.grownBy (wr.setCell ⟨g, i, none⟩ (.int .u32 (v : Int))) (some g)) := Lib.hid (by
        refine ⟨hB'.set _ _, uL'.set _ (by omega) (by unfold R at hvR; omega), by simpa using HL.out, ?_, grownBy_trans hgr (grownBy_set _ _ _)⟩
        rw [val_take_set_succ _ _ _ hiL, Int.toNat_natCast, List.drop_set_of_lt (by omega), HV.out, val_drop L' i hiL, ← HA.out,
          down_step (b0 := b) hs hal (by rw [hb]; exact val_drop_mod _ _ _ hs), ← hv, Nat.mul_add, Rpow_next, Nat.mul_assoc, Nat.add_assoc])
      have a4 : (a : Int) ≤ 4294967295 := by unfold R at hal; omega
      by_cases hin : i + 1 < L.length
      · have hcb := hB'.cell (i + 1) (by have := HL.out; omega)
        rw [← lb_cast uL' (i + 1), ← hb] at hcb
        have b4 : (b : Int) ≤ 4294967295 := by unfold R at hbl; omega
        have e0 : Hid (bits .or .u64 (a : Int) ((b : Int) * 4294967296) = ((a + b * R : Nat) : Int)) := Lib.hid (by
          have := u64_or_nat a (b * 4294967296) (by unfold R at hal; omega) (by unfold R at hbl; omega)
          rw [show ((b : Int) * 4294967296) = ((b * 4294967296 : Nat) : Int) by omega, this, Nat.or_comm, nat_join 32 (b * 4294967296) a (by omega) (by unfold R at hal; omega)]
          unfold R; omega)
        have hin2 : (i : Int) + 1 < (L.length : Int) := by omega
        clear hb hbl hv hvR ha hal hiL
        go_wp2_with fail
        go_roundw
        case rel =>
          obtain ⟨f1, f2, f3, f4, f5⟩ := fin.out
          rw [e0.out, HV2.out]
          exact ⟨i + 1, _, by omega, by go_num, f1, f2, f3, f4, f5⟩
        case measure => simp [intOf]; omega
      · have hb0 : b = 0 := by rw [hb, lb, nth_out _ _ (by have := HL.out; omega)]; rfl
        have e0 : Hid ((((a : Nat) : Int) / 2 ^ s) % 4294967296 = (v : Int)) := Lib.hid (by have := HV2.out; rw [hb0] at this; simpa using this)
        have hin2 : ¬ (i : Int) + 1 < (L.length : Int) := by omega
        clear hb hb0 hbl hv hvR ha hal hiL hab
        go_wp2_with fail
        go_roundw
        case rel =>
          obtain ⟨f1, f2, f3, f4, f5⟩ := fin.out
          rw [e0.out]
          exact ⟨i + 1, _, by omega, by go_num, f1, f2, f3, f4, f5⟩
        case measure => simp [intOf]; omega
    · obtain rfl : i = L.length := by omega
      go_wp2_with fail
      go_end0
      refine ⟨L', rfl, hB', uL', HL.out, ?_, hgr⟩
      have := HV.out
      rw [List.take_of_length_le (by rw [HL.out]; omega), List.drop_of_length_le (by rw [HL.out]; omega)] at this
      rw [this]; simp [val]

theorem NatRes.of_pre {B g n cap : Nat} {w : World} {L : List Int} (h : Pre w g .u32 25 cap L) (hB : B ≤ g) (hu : U32 L) (hv : val L = n) : NatRes B w (.slice (some ⟨g, 0, none⟩) (norm L).length (norm L).length) n := by
  have h1 := topz_le L
  obtain ⟨cs, hh, h2, h3, h4, h5⟩ := h
  refine ⟨norm L, ?_, Canon.norm L, hu.norm, by rw [val_norm, hv]⟩
  refine .inr ⟨g, (norm L).length, cs, rfl, hB, hh, Nat.le_refl _, by rw [length_norm]; omega, by rw [length_norm]; omega, ?_⟩
  rw [length_norm]
  have e : norm L = L.take (topz L) := rfl
  rw [e, List.map_take, ← h5, List.take_take, Nat.min_eq_left h1]
theorem max0 (k : Int) : max k 0 = ((shD k : Nat) : Int) := by unfold shD; omega
set_option maxHeartbeats 1000000 in
theorem Shr_c (a : Option Addr) (cap : Nat) (zs : List Int) (k : Int) (w : World) (hc : Sl .u32 w a cap zs) (ux : U32 zs) (hl : zs.length ≤ 35184372088000) (hk : -9223372036854775808 ≤ k ∧ k ≤ 9223372036854775807) :
    Calls Try.prog 22 #[.slice a zs.length cap, .int .i64 k] w (NatPost (val zs / 2 ^ shD k) w) := by
  obtain ⟨k1, k2⟩ := hk
  have hs0 := max0 k
  obtain ⟨s, hs⟩ : ∃ s, s = shD k := ⟨_, rfl⟩
  rw [← hs] at hs0 ⊢
  have s1 : s ≤ 9223372036854775807 := by omega
  have vc := value_c a cap zs w hc
  have VX := Lib.hid (val_norm zs)
  have hlx : (norm zs).length ≤ zs.length := by rw [length_norm]; exact topz_le zs
  obtain ⟨n, hn⟩ : ∃ n, n = (norm zs).length := ⟨_, rfl⟩
  have hX := (hc.take (topz zs)).short
  rw [show zs.take (topz zs) = norm zs from rfl] at hX
  have uX := ux.norm
  obtain ⟨X, hXe⟩ : ∃ X, X = norm zs := ⟨_, rfl⟩
  rw [← hXe] at hX uX VX vc hn hlx
  rw [← hn] at hX vc
  have HN := Lib.hid hn
  have n1 : n ≤ 35184372088000 := by omega
  obtain ⟨q, hq⟩ : ∃ q, q = s / 32 := ⟨_, rfl⟩
  have Eq : (s : Int) / 32 = (q : Int) := by omega
  by_cases hlt : q < n
  · obtain ⟨b, off, rfl, hcc⟩ := hX.cells (by omega)
    obtain ⟨r, hr⟩ : ∃ r, r = s % 32 := ⟨_, rfl⟩
    have hr2 : r < 32 := by omega
    have HSQ : Hid (s = 32 * q + r) := Lib.hid (by omega)
    have Er : (s : Int) % 32 = (r : Int) := by omega
    have hd : decide ((n : Int) ≤ (q : Int)) = false := decide_eq_false (by omega)
    have hd2 : (q : Int) < (n : Int) := by omega
    have hd3 : (q : Int) ≤ (n : Int) := by omega
    have hd4 : q ≤ n := by omega
    have hd5 : ¬ n - q = 0 := by omega
    have hd6 : ¬ n ≤ q := by omega
    have hD : Cells .u32 w (some ⟨b, off + q, none⟩) (X.drop q) := fun _ => ⟨b, off + q, rfl, fun j hj => by
      rw [List.length_drop] at hj
      have := hcc (q + j) (by omega)
      rw [nth_drop, Nat.add_assoc]
      exact this⟩
    have lD : Hid ((X.drop q).length = n - q) := Lib.hid (by rw [List.length_drop, HN.out])
    have uD := uX.drop (by omega) q
    have vD : Hid (val zs / 2 ^ s = val (X.drop q) / 2 ^ r) := Lib.hid (by
      have e := val_split X q (by omega)
      have h1 := val_take_lt uX q (by omega)
      rw [HSQ.out, Nat.pow_add, ← Nat.div_div_eq_div_mul, ← Rpow_two, ← VX.out, e, Nat.add_mul_div_left _ _ (Rpow_pos _), Nat.div_eq_of_lt h1, Nat.zero_add])
    obtain ⟨D, hDe⟩ : ∃ D, D = X.drop q := ⟨_, rfl⟩
    rw [← hDe] at hD lD uD vD
    have hD0 : Hid (0 < D.length) := Lib.hid (by rw [lD.out]; omega)
    clear hn hXe hq hs hr hcc hX hDe
    go_enter Try.func22, Try.ntmps22
    go_wp2_with fail
    refine vc.mono ?_; rintro e w' ⟨rfl, rfl⟩
    clear vc
    go_wp2_with (at_builtin; refine wpList_append_new _ rfl _ _ 22 rfl w.heap.size 25 .u32 4 Try.underlying22 info32 _ [] rfl (New.nil _ _ _ _) _ _ (n - q) D rfl lD.out.symm hD (by rw [lD.out]; simp; omega) (by rw [lD.out]; simp; omega) (Nat.le_refl _) ?_)
    intro v' w1 hv hg1 ho1
    have hb1 : Below w.heap.size w w1 := (Below.refl _ _).grown hg1 (Nat.le_refl _) (by simp [Value.ownBlock])
    obtain ⟨g, cp, rfl, hge, hp⟩ := hv.pre hD0.out
    have dc := downp_c g cp r D w1 hp uD hp.le (by rw [lD.out]; omega) hr2
    rw [lD.out] at dc ⊢
    clear hv hg1 ho1 hp
    go_wp2_with fail
    refine dc.mono ?_; rintro e w2 ⟨L, rfl, hp2, uL, lL, vL, hg2⟩
    have hB2 : Below w.heap.size w w2 := hb1.grown hg2 hb1.size (by simp; omega)
    have VL := Lib.hid vL
    have LL : Hid (L.length = n - q) := Lib.hid (by rw [lL, lD.out])
    have pc := proper_c (some ⟨g, 0, none⟩) cp L w2 hp2.sl
    rw [LL.out] at pc
    clear dc vL lL hg2
    go_wp2_with fail
    refine pc.mono ?_; rintro e w' ⟨rfl, rfl⟩
    go_wp2_with fail
    go_ret
    exact ⟨_, rfl, .of_pre hp2 hge uL (by rw [VL.out, vD.out]), hB2⟩
  · have h0 : Hid (val zs / 2 ^ s = 0) := Lib.hid (by
      apply Nat.div_eq_of_lt
      rw [← VX.out]
      refine Nat.lt_of_lt_of_le (val_lt uX) ?_
      rw [← hn, Rpow_two]
      exact Nat.pow_le_pow_right (by decide) (by omega))
    have hd : decide ((n : Int) ≤ (q : Int)) = true := decide_eq_true (by omega)
    have hd2 : (n : Int) ≤ (q : Int) := by omega
    clear hn hXe hq hs
    go_enter Try.func22, Try.ntmps22
    go_wp2_with fail
    refine vc.mono ?_; rintro e w' ⟨rfl, rfl⟩
    go_wp2_with fail
    go_ret
    exact ⟨_, rfl, ⟨[], New.nil _ _ _ _, Canon.nil, .nil (by omega), by rw [h0.out]; rfl⟩, .refl _ _⟩
end Go.Proofs.Ytnlmkikaaifcmaa
