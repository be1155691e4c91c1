/- What an encoding holds, in plain words. No program in sight. -/
import Derived.Test.YtponfoijmmegmaaDoorEncN
set_option linter.unusedVariables false
set_option linter.unusedSimpArgs false
namespace Go.Sg
open Go.RowKit
set_option maxRecDepth 100000 in
theorem mask_foo : maskOf 1 [102, 111, 111] 3 = [59, 218, 186] := by decide +kernel
theorem xl_xl {ys M : List Int} (i : Nat) (hi : i < ys.length) (hm : i < M.length) (u : U8 ys) : bx (nth (xl ys M) i) (nth M i) = nth ys i := by
  rw [xl_in _ _ _ hi hm]
  exact (bx_back (bx_u8 _ _) (u i)).1 rfl
theorem blk_nth (h : Int) (digest salt : List Int) (b n i : Nat) (hp : 0 < i) : nth (encBlk h digest salt b n) i = nth (xl (encDb n salt) (maskOf h (encSum h digest salt) n)) i := topped_nth _ _ _ hp
/-- What unmasking an encoding gives, behind its first byte. -/
theorem undone_enc {h : Int} (hh : IsHash h) (digest salt : List Int) (b n : Nat) (hn : salt.length + 1 ≤ n) (us : U8 salt) (i : Nat) (hp : 0 < i) (hi : i < n) :
    nth (undone h (encBlk h digest salt b n ++ (encSum h digest salt ++ [188])) n) i = nth (encDb n salt) i := by
  have lB : (encBlk h digest salt b n).length = n := encBlk_len hn
  have lD : (encDb n salt).length = n := encDb_len hn
  have lM : (maskOf h (encSum h digest salt) n).length = n := maskOf_len hh _ _
  unfold undone
  rw [List.take_left' lB, List.drop_left' lB, List.take_left' (encSum_len _ _ _), xl_in _ _ _ (by omega) (by omega), blk_nth _ _ _ _ _ _ hp]
  exact xl_xl i (by omega) (by omega) (encDb_u8 us)
theorem undone_len {h : Int} (em : List Int) (n : Nat) (hl : n ≤ em.length) : (undone h em n).length = n := by
  unfold undone; rw [xl_len, List.length_take]; omega
theorem salt_back {h : Int} (hh : IsHash h) (digest salt : List Int) (b n : Nat) (hs : salt.length = shaSize h) (hn : shaSize h + 1 ≤ n) (us : U8 salt) : saltOf h (encBlk h digest salt b n ++ (encSum h digest salt ++ [188])) n = salt := by
  have lB : (encBlk h digest salt b n).length = n := encBlk_len (by omega)
  unfold saltOf
  have lU : (undone h (encBlk h digest salt b n ++ (encSum h digest salt ++ [188])) n).length = n := undone_len _ _ (by rw [List.length_append, lB]; omega)
  refine ext_nth _ _ (by rw [List.length_drop, lU]; omega) fun j hj => ?_
  rw [List.length_drop, lU] at hj
  rw [nth_drop, undone_enc hh _ _ _ _ (by omega) us _ (by omega) (by omega), show n - shaSize h + j = n - salt.length - 1 + (j + 1) by omega]
  exact encDb_hi j
theorem holds_enc {h : Int} (hh : IsHash h) (digest salt : List Int) (b : Nat) (hb : b ≤ 65536) (hf : encFits h digest salt b) (hs : salt.length = shaSize h) (us : U8 salt) : holdsOf h digest (encOf h digest salt b) (b : Int) := by
  have h2 := hf.2
  refine ⟨hh, ⟨by omega, by omega⟩, hf.1, ?_, ?_, ?_⟩
  · rw [Int.toNat_natCast]; exact encOf_len hf
  · rw [Int.toNat_natCast]; omega
  · rw [Int.toNat_natCast]
    unfold holdsAt
    unfold encOf
    rw [salt_back hh _ _ _ _ hs (by omega) us]
/-- What is encoded with a salt of the hash's length holds for another digest only if the two have one second sum. -/
theorem holds_clash {h : Int} (hh : IsHash h) (digest digest2 salt : List Int) (b : Nat) (hf : encFits h digest salt b) (hs : salt.length = shaSize h) (us : U8 salt) (k : holdsOf h digest2 (encOf h digest salt b) (b : Int)) : encSum h digest salt = encSum h digest2 salt := by
  have h2 := hf.2
  have k2 := k.2.2.2.2.2
  rw [Int.toNat_natCast] at k2
  unfold holdsAt encOf at k2
  rw [salt_back hh _ _ _ _ hs (by omega) us] at k2
  have e1 := (List.append_inj k2 (by rw [encBlk_len (by omega), encBlk_len (by omega)])).2
  exact (List.append_inj e1 (by rw [encSum_len, encSum_len])).1
/-- A noughts' byte that is turned: it holds no more. -/
theorem bump_not {h : Int} (hh : IsHash h) (digest salt : List Int) (b n i : Nat) (v : Int) (hs : salt.length = shaSize h) (hn : shaSize h + 1 ≤ n) (us : U8 salt) (hp : 0 < i) (hi : i < n - shaSize h - 1) (hv : 0 ≤ v ∧ v ≤ 255)
    (hne : v ≠ nth (encBlk h digest salt b n ++ (encSum h digest salt ++ [188])) i) : ¬ holdsAt h digest ((encBlk h digest salt b n ++ (encSum h digest salt ++ [188])).set i v) b n := by
  have lB : (encBlk h digest salt b n).length = n := encBlk_len (by omega)
  have lH : (encSum h digest salt).length = shaSize h := encSum_len _ _ _
  have lM : (maskOf h (encSum h digest salt) n).length = n := maskOf_len hh _ _
  have eS : (encBlk h digest salt b n ++ (encSum h digest salt ++ [188])).set i v = (encBlk h digest salt b n).set i v ++ (encSum h digest salt ++ [188]) := List.set_append_left _ _ (by omega)
  have lB2 : ((encBlk h digest salt b n).set i v).length = n := by rw [List.length_set]; exact lB
  have eN : nth (encBlk h digest salt b n ++ (encSum h digest salt ++ [188])) i = nth (maskOf h (encSum h digest salt) n) i := by
    rw [nth_append_left _ _ _ (by omega), blk_nth _ _ _ _ _ _ hp, xl_in _ _ _ (by rw [encDb_len (by omega)]; omega) (by omega), encDb_lo i (by omega), bx_zero_left (maskOf_u8 _ _ _ _)]
  rw [eS]
  intro k
  have k3 := ((holds_iff hh digest _ b n (by omega) (by rw [List.length_append, lB2, List.length_append, lH]; simp; omega) (((InR.set (encBlk_u8 us) i hv.1 hv.2)).append (by omega) ((encSum_u8 _ _ _).append (by omega) (.of_mem (by omega) (by simp))))).1 k).2.2.1 i hi
  rw [topped_nth _ _ _ hp] at k3
  unfold undone at k3
  rw [List.take_left' lB2, List.drop_left' lB2, List.take_left' lH, xl_in _ _ _ (by omega) (by omega), nth_set _ _ _ _ (by omega), if_pos rfl] at k3
  refine hne ?_
  rw [eN, (bx_back hv (by omega)).2 k3, bx_zero_left (maskOf_u8 _ _ _ _)]
/-- The first byte of an encoding has no more bits than it may. -/
theorem enc_first (h : Int) (digest salt : List Int) (b n : Nat) (tl : List Int) (hn : salt.length + 1 ≤ n) (hr : ¬ b % 8 = 0) : 0 ≤ nth (encBlk h digest salt b n ++ tl) 0 ∧ nth (encBlk h digest salt b n ++ tl) 0 < 2 ^ (b % 8) := by
  have lB : (encBlk h digest salt b n).length = n := encBlk_len hn
  rw [nth_append_left _ _ _ (by omega)]
  unfold encBlk
  rw [topped_nth0 _ _ (by rw [xl_len, encDb_len hn]; omega)]
  obtain ⟨x, hx⟩ : ∃ x, x = nth (xl (encDb n salt) (maskOf h (encSum h digest salt) n)) 0 := ⟨_, rfl⟩
  rw [← hx, and_eq]
  refine ⟨Int.natCast_nonneg _, ?_⟩
  have hle : (BitVec.ofInt 8 x &&& BitVec.ofInt 8 (topB b)).toNat ≤ (BitVec.ofInt 8 (topB b)).toNat := by rw [BitVec.toNat_and]; exact Nat.and_le_right
  have ht := ofInt_back (topB_u8 b)
  have hb : topB b < 2 ^ (b % 8) := by
    unfold topB
    have h8 : b % 8 < 8 := Nat.mod_lt _ (by omega)
    obtain ⟨r, hr2⟩ : ∃ r, r = b % 8 := ⟨_, rfl⟩
    rw [← hr2] at h8 hr ⊢
    match r, h8, hr with
    | 0, _, hr => exact absurd rfl hr
    | 1, _, _ => decide
    | 2, _, _ => decide
    | 3, _, _ => decide
    | 4, _, _ => decide
    | 5, _, _ => decide
    | 6, _, _ => decide
    | 7, _, _ => decide
  omega
end Go.Sg
