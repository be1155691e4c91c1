/- An encoding, and how it is undone, in plain words. No program in sight. -/
import Derived.Test.YtponfoijmmegmaaDoorPssL
set_option linter.unusedVariables false
set_option linter.unusedSimpArgs false
namespace Go.Sg
open Go.RowKit
/-- The bits that the first byte may have. -/
def topB (b : Nat) : Int := ((255 / 2 ^ ((8 - b % 8) % 8) : Nat) : Int)
theorem topB_u8 (b : Nat) : 0 ≤ topB b ∧ topB b ≤ 255 := by
  unfold topB
  exact ⟨Int.natCast_nonneg _, Int.ofNat_le.2 (Nat.div_le_self 255 (2 ^ ((8 - b % 8) % 8)))⟩
theorem topB_odd (b : Nat) : bits .and .u8 1 (topB b) = 1 := by
  unfold topB
  have h : (8 - b % 8) % 8 < 8 := Nat.mod_lt _ (by omega)
  obtain ⟨k, hk⟩ : ∃ k, k = (8 - b % 8) % 8 := ⟨_, rfl⟩
  rw [← hk] at h ⊢
  match k, h with
  | 0, _ => decide
  | 1, _ => decide
  | 2, _ => decide
  | 3, _ => decide
  | 4, _ => decide
  | 5, _ => decide
  | 6, _ => decide
  | 7, _ => decide
theorem and_eq (x y : Int) : bits .and .u8 x y = ((BitVec.ofInt 8 x &&& BitVec.ofInt 8 y).toNat : Int) := by
  show IntKind.u8.wrap ((BitVec.ofInt 8 x &&& BitVec.ofInt 8 y).toNat : Nat) = _
  rw [IntKind.wrap_u8']
  have := (BitVec.ofInt 8 x &&& BitVec.ofInt 8 y).isLt
  omega
theorem andNot_eq (x y : Int) : bits .andNot .u8 x y = ((BitVec.ofInt 8 x &&& ~~~ BitVec.ofInt 8 y).toNat : Int) := by
  show IntKind.u8.wrap ((BitVec.ofInt 8 x &&& ~~~ BitVec.ofInt 8 y).toNat : Nat) = _
  rw [IntKind.wrap_u8']
  have := (BitVec.ofInt 8 x &&& ~~~ BitVec.ofInt 8 y).isLt
  omega
theorem and_u8 (x y : Int) : 0 ≤ bits .and .u8 x y ∧ bits .and .u8 x y ≤ 255 := by
  rw [and_eq]
  have := (BitVec.ofInt 8 x &&& BitVec.ofInt 8 y).isLt
  omega
theorem ofInt_back {x : Int} (h : 0 ≤ x ∧ x ≤ 255) : ((BitVec.ofInt 8 x).toNat : Int) = x := ofInt8_toNat h
theorem ofInt_nat (v : BitVec 8) : BitVec.ofInt 8 (v.toNat : Int) = v := by
  apply BitVec.eq_of_toNat_eq
  rw [BitVec.toNat_ofInt]
  have := v.isLt
  omega
theorem nat_inj {u v : BitVec 8} (h : (u.toNat : Int) = (v.toNat : Int)) : u = v := BitVec.eq_of_toNat_eq (by omega)
theorem byte_law (X D M T : BitVec 8) : X = (D ^^^ M) &&& T ↔ X &&& ~~~ T = 0#8 ∧ (X ^^^ M) &&& T = D &&& T := by
  constructor
  · rintro rfl
    constructor
    · ext i hi; simp
    · ext i hi
      simp
      cases D[i] <;> cases M[i] <;> cases T[i] <;> rfl
  · rintro ⟨h1, h2⟩
    ext i hi
    have e1 := congrArg (fun v : BitVec 8 => v.getLsbD i) h1
    have e2 := congrArg (fun v : BitVec 8 => v.getLsbD i) h2
    simp [hi] at e1 e2 ⊢
    revert e1 e2
    cases X[i] <;> cases D[i] <;> cases M[i] <;> cases T[i] <;> simp
theorem byte_ints {x d m t : Int} (hx : 0 ≤ x ∧ x ≤ 255) : x = bits .and .u8 (bx d m) t ↔ bits .andNot .u8 x t = 0 ∧ bits .and .u8 (bx x m) t = bits .and .u8 d t := by
  rw [bx_eq, bx_eq, and_eq, and_eq, and_eq, andNot_eq, ofInt_nat, ofInt_nat]
  have key := byte_law (.ofInt 8 x) (.ofInt 8 d) (.ofInt 8 m) (.ofInt 8 t)
  constructor
  · intro h
    have := key.1 (nat_inj (by rw [ofInt_back hx]; exact h))
    rw [this.1, this.2]
    exact ⟨rfl, rfl⟩
  · rintro ⟨h1, h2⟩
    have := key.2 ⟨nat_inj (by rw [h1]; rfl), nat_inj h2⟩
    rw [← this]
    exact (ofInt_back hx).symm
theorem bx_back {x m d : Int} (hx : 0 ≤ x ∧ x ≤ 255) (hd : 0 ≤ d ∧ d ≤ 255) : x = bx d m ↔ bx x m = d := by
  rw [bx_eq, bx_eq]
  constructor
  · intro h
    have e : BitVec.ofInt 8 x = BitVec.ofInt 8 d ^^^ BitVec.ofInt 8 m := by rw [h, ofInt_nat]
    rw [e, BitVec.xor_assoc, BitVec.xor_self, BitVec.xor_zero]
    exact ofInt_back hd
  · intro h
    have e : BitVec.ofInt 8 d = BitVec.ofInt 8 x ^^^ BitVec.ofInt 8 m := by rw [← h, ofInt_nat]
    rw [e, BitVec.xor_assoc, BitVec.xor_self, BitVec.xor_zero]
    exact (ofInt_back hx).symm

/-! ### the encoding -/
def encLen (b : Nat) : Nat := (b + 7) / 8
def z8 : List Int := List.replicate 8 0
def encSum (h : Int) (digest salt : List Int) : List Int := sha h (z8 ++ digest ++ salt)
def encDb (n : Nat) (salt : List Int) : List Int := List.replicate (n - salt.length - 1) 0 ++ 1 :: salt
def topped (t : Int) (xs : List Int) : List Int := xs.set 0 (bits .and .u8 (nth xs 0) t)
def encBlk (h : Int) (digest salt : List Int) (b n : Nat) : List Int := topped (topB b) (xl (encDb n salt) (maskOf h (encSum h digest salt) n))
def encOf (h : Int) (digest salt : List Int) (b : Nat) : List Int := encBlk h digest salt b (encLen b - shaSize h - 1) ++ (encSum h digest salt ++ [188])
/-- A right digest, and room for the salt. -/
def encFits (h : Int) (digest salt : List Int) (b : Nat) : Prop := digest.length = shaSize h ∧ shaSize h + salt.length + 2 ≤ encLen b
instance (h : Int) (digest salt : List Int) (b : Nat) : Decidable (encFits h digest salt b) := inferInstanceAs (Decidable (_ ∧ _))
def ecode (h : Int) (digest salt : List Int) (n : Int) : Int := if IsHash h then (if 0 ≤ n ∧ n ≤ 65536 then (if encFits h digest salt n.toNat then 0 else 90) else 10) else 111
def eres (h : Int) (digest salt : List Int) (n : Int) : List Int := if IsHash h ∧ (0 ≤ n ∧ n ≤ 65536) ∧ encFits h digest salt n.toNat then encOf h digest salt n.toNat else []
theorem z8_u8 : U8 z8 := InR.zeros (by omega) _
theorem encSum_u8 (h : Int) (digest salt : List Int) : U8 (encSum h digest salt) := sha_u8 _ _
theorem encSum_len (h : Int) (digest salt : List Int) : (encSum h digest salt).length = shaSize h := sha_len _ _
theorem encDb_len {n : Nat} {salt : List Int} (h : salt.length + 1 ≤ n) : (encDb n salt).length = n := by
  unfold encDb
  rw [List.length_append, List.length_replicate, List.length_cons]; omega
theorem encDb_u8 {n : Nat} {salt : List Int} (h : U8 salt) : U8 (encDb n salt) := (InR.zeros (by omega) _).append (by omega) (InR.append (xs := [1]) (by omega) (.of_mem (by omega) (by simp)) h)
theorem topped_len (t : Int) (xs : List Int) : (topped t xs).length = xs.length := List.length_set
theorem topped_u8 {t : Int} {xs : List Int} (h : U8 xs) : U8 (topped t xs) := InR.set h 0 (and_u8 _ _).1 (and_u8 _ _).2
theorem encBlk_len {h : Int} {digest salt : List Int} {b n : Nat} (hs : salt.length + 1 ≤ n) : (encBlk h digest salt b n).length = n := by
  unfold encBlk; rw [topped_len, xl_len, encDb_len hs]
theorem encBlk_u8 {h : Int} {digest salt : List Int} {b n : Nat} (u : U8 salt) : U8 (encBlk h digest salt b n) := topped_u8 (xl_u8 (encDb_u8 u))
theorem encOf_len {h : Int} {digest salt : List Int} {b : Nat} (hf : encFits h digest salt b) : (encOf h digest salt b).length = encLen b := by
  have h2 := hf.2
  unfold encOf
  rw [List.length_append, encBlk_len (by omega), List.length_append, encSum_len]
  simp; omega
theorem encOf_u8 {h : Int} {digest salt : List Int} {b : Nat} (u : U8 salt) : U8 (encOf h digest salt b) :=
  (encBlk_u8 u).append (by omega) ((encSum_u8 _ _ _).append (by omega) (.of_mem (by omega) (by simp)))
theorem eres_u8 {h : Int} {digest salt : List Int} {n : Int} (u : U8 salt) : U8 (eres h digest salt n) := by
  unfold eres
  split
  · exact encOf_u8 u
  · exact .nil (by omega)

/-! ### how it is undone -/
/-- What unmasking gives. -/
def undone (h : Int) (em : List Int) (n : Nat) : List Int := xl (em.take n) (maskOf h ((em.drop n).take (shaSize h)) n)
def saltOf (h : Int) (em : List Int) (n : Nat) : List Int := (undone h em n).drop (n - shaSize h)
def holdsAt (h : Int) (digest em : List Int) (b n : Nat) : Prop := em = encBlk h digest (saltOf h em n) b n ++ (encSum h digest (saltOf h em n) ++ [188])
instance (h : Int) (digest em : List Int) (b n : Nat) : Decidable (holdsAt h digest em b n) := inferInstanceAs (Decidable (_ = _))
def holdsOf (h : Int) (digest em : List Int) (bits : Int) : Prop :=
  IsHash h ∧ (0 ≤ bits ∧ bits ≤ 65536) ∧ digest.length = shaSize h ∧ em.length = encLen bits.toNat ∧ 2 * shaSize h + 2 ≤ encLen bits.toNat ∧ holdsAt h digest em bits.toNat (encLen bits.toNat - shaSize h - 1)
instance (h : Int) (digest em : List Int) (bits : Int) : Decidable (holdsOf h digest em bits) := inferInstanceAs (Decidable (_ ∧ _))
theorem topped_nth0 (t : Int) (xs : List Int) (h : 0 < xs.length) : nth (topped t xs) 0 = bits .and .u8 (nth xs 0) t := by
  unfold topped; rw [nth_set _ _ _ _ h, if_pos rfl]
theorem topped_nth (t : Int) (xs : List Int) (i : Nat) (h : 0 < i) : nth (topped t xs) i = nth xs i := by
  unfold topped
  by_cases h0 : 0 < xs.length
  · rw [nth_set _ _ _ _ h0, if_neg (by omega)]
  · have : xs = [] := List.eq_nil_of_length_eq_zero (by omega)
    subst this; rfl
/-- Masked bytes are these just if the first has no strange bit and what is unmasked is what was masked. -/
theorem masked_iff (t : Int) (X M D : List Int) (hM : M.length = X.length) (hD : D.length = X.length) (h0 : 0 < X.length) (uX : U8 X) (uD : U8 D) :
    X = topped t (xl D M) ↔ bits .andNot .u8 (nth X 0) t = 0 ∧ topped t (xl X M) = topped t D := by
  have lX : (xl X M).length = X.length := xl_len _ _
  have lD : (xl D M).length = X.length := by rw [xl_len, hD]
  constructor
  · intro h
    have b0 : nth X 0 = bits .and .u8 (bx (nth D 0) (nth M 0)) t := by
      have this : nth X 0 = nth (topped t (xl D M)) 0 := congrArg (nth · 0) h
      rw [topped_nth0 _ _ (by omega), xl_in _ _ _ (by omega) (by omega)] at this
      exact this
    have b1 := (byte_ints (uX 0)).1 b0
    refine ⟨b1.1, ext_nth _ _ (by rw [topped_len, topped_len]; omega) fun i hi => ?_⟩
    rw [topped_len] at hi
    rcases Nat.eq_zero_or_pos i with rfl | hp
    · rw [topped_nth0 _ _ (by omega), topped_nth0 _ _ (by omega), xl_in _ _ _ (by omega) (by omega)]; exact b1.2
    · rw [topped_nth _ _ _ hp, topped_nth _ _ _ hp, xl_in _ _ _ (by omega) (by omega)]
      have this : nth X i = nth (topped t (xl D M)) i := congrArg (nth · i) h
      rw [topped_nth _ _ _ hp, xl_in _ _ _ (by omega) (by omega)] at this
      exact (bx_back (uX i) (uD i)).1 this
  · rintro ⟨h1, h2⟩
    refine ext_nth _ _ (by rw [topped_len]; omega) fun i hi => ?_
    have e : nth (topped t (xl X M)) i = nth (topped t D) i := congrArg (nth · i) h2
    rcases Nat.eq_zero_or_pos i with rfl | hp
    · rw [topped_nth0 _ _ (by omega), topped_nth0 _ _ (by omega), xl_in _ _ _ (by omega) (by omega)] at e
      rw [topped_nth0 _ _ (by omega), xl_in _ _ _ (by omega) (by omega)]
      exact (byte_ints (uX 0)).2 ⟨h1, e⟩
    · rw [topped_nth _ _ _ hp, topped_nth _ _ _ hp, xl_in _ _ _ (by omega) (by omega)] at e
      rw [topped_nth _ _ _ hp, xl_in _ _ _ (by omega) (by omega)]
      exact (bx_back (uX i) (uD i)).2 e
theorem encDb_lo {n : Nat} {salt : List Int} (i : Nat) (h : i < n - salt.length - 1) : nth (encDb n salt) i = 0 := by
  unfold encDb
  rw [nth_append_left _ _ _ (by rw [List.length_replicate]; exact h), nth_replicate0]
theorem encDb_one {n : Nat} {salt : List Int} : nth (encDb n salt) (n - salt.length - 1) = 1 := by
  unfold encDb
  have := nth_append_right (List.replicate (n - salt.length - 1) (0 : Int)) (1 :: salt) 0
  rw [List.length_replicate, Nat.add_zero] at this
  rw [this]; rfl
theorem encDb_hi {n : Nat} {salt : List Int} (j : Nat) : nth (encDb n salt) (n - salt.length - 1 + (j + 1)) = nth salt j := by
  unfold encDb
  have := nth_append_right (List.replicate (n - salt.length - 1) (0 : Int)) (1 :: salt) (j + 1)
  rw [List.length_replicate] at this
  rw [this]; rfl
theorem zero_and (t : Int) : bits .and .u8 0 t = 0 := by
  rw [and_eq, show BitVec.ofInt 8 0 = 0#8 from rfl, BitVec.zero_and]; rfl
theorem topped_db (b n : Nat) (salt : List Int) (h : salt.length + 1 ≤ n) : topped (topB b) (encDb n salt) = encDb n salt := by
  refine ext_nth _ _ (topped_len _ _) fun i hi => ?_
  rw [topped_len, encDb_len h] at hi
  rcases Nat.eq_zero_or_pos i with rfl | hp
  · rw [topped_nth0 _ _ (by rw [encDb_len h]; omega)]
    rcases Nat.eq_zero_or_pos (n - salt.length - 1) with e | e
    · have := encDb_one (n := n) (salt := salt)
      rw [e] at this
      rw [this]; exact topB_odd b
    · rw [encDb_lo 0 e]; exact zero_and _
  · exact topped_nth _ _ _ hp
theorem encDb_iff (n k : Nat) (T : List Int) (hT : T.length = n) (hk : k + 1 ≤ n) : T = encDb n (T.drop (n - k)) ↔ (∀ i, i < n - k - 1 → nth T i = 0) ∧ nth T (n - k - 1) = 1 := by
  have ls : (T.drop (n - k)).length = k := by rw [List.length_drop]; omega
  constructor
  · intro h
    constructor
    · intro i hi
      rw [h]; exact encDb_lo i (by rw [ls]; exact hi)
    · have := encDb_one (n := n) (salt := T.drop (n - k))
      rw [ls] at this
      rw [← h] at this
      exact this
  · rintro ⟨h1, h2⟩
    refine ext_nth _ _ (by rw [encDb_len (by omega)]; exact hT) fun i hi => ?_
    rw [hT] at hi
    by_cases h3 : i < n - k - 1
    · rw [h1 i h3, encDb_lo i (by rw [ls]; exact h3)]
    · by_cases h4 : i = n - k - 1
      · have := encDb_one (n := n) (salt := T.drop (n - k))
        rw [ls] at this
        rw [h4, h2, this]
      · obtain ⟨j, rfl⟩ : ∃ j, i = n - k - 1 + (j + 1) := ⟨i - (n - k - 1) - 1, by omega⟩
        have := encDb_hi (n := n) (salt := T.drop (n - k)) j
        rw [ls] at this
        rw [this, nth_drop]
        congr 1; omega
/-- An encoding holds just if it is undone so. -/
theorem holds_iff {h : Int} (hh : IsHash h) (digest em : List Int) (b n : Nat) (hn : shaSize h + 1 ≤ n) (hl : em.length = n + shaSize h + 1) (u : U8 em) :
    holdsAt h digest em b n ↔ nth em (n + shaSize h) = 188 ∧ bits .andNot .u8 (nth em 0) (topB b) = 0 ∧ (∀ i, i < n - shaSize h - 1 → nth (topped (topB b) (undone h em n)) i = 0) ∧
      nth (topped (topB b) (undone h em n)) (n - shaSize h - 1) = 1 ∧ encSum h digest ((topped (topB b) (undone h em n)).drop (n - shaSize h)) = (em.drop n).take (shaSize h) := by
  obtain ⟨k, hk⟩ : ∃ k, k = shaSize h := ⟨_, rfl⟩
  have k0 : 0 < k := by rw [hk]; exact hh.size_le.2.1
  obtain ⟨S, hS⟩ : ∃ S, S = (em.drop n).take k := ⟨_, rfl⟩
  obtain ⟨X, hX⟩ : ∃ X, X = em.take n := ⟨_, rfl⟩
  obtain ⟨q, hq⟩ : ∃ q, q = nth em (n + k) := ⟨_, rfl⟩
  obtain ⟨M, hM⟩ : ∃ M, M = maskOf h S n := ⟨_, rfl⟩
  have lX : X.length = n := by rw [hX, List.length_take]; omega
  have lS : S.length = k := by rw [hS, List.length_take, List.length_drop]; omega
  have lM : M.length = n := by rw [hM, maskOf_len hh]
  have eU : undone h em n = xl X M := by unfold undone; rw [← hk, ← hS, ← hX, ← hM]
  have eE : em = X ++ (S ++ [q]) := by
    have e1 : em.drop n = S ++ [q] := by
      have := take_succ_nth (em.drop n) k (by rw [List.length_drop]; omega)
      rw [List.take_of_length_le (by rw [List.length_drop]; omega), nth_drop, ← hS, ← hq] at this
      exact this
    rw [← e1, hX, List.take_append_drop]
  have uX : U8 X := by rw [hX]; exact u.take (by omega) _
  have n0 : nth em 0 = nth X 0 := by rw [eE, nth_append_left _ _ _ (by omega)]
  obtain ⟨s, hs⟩ : ∃ s, s = (xl X M).drop (n - k) := ⟨_, rfl⟩
  have ls : s.length = k := by rw [hs, List.length_drop, xl_len, lX]; omega
  have us : U8 s := by rw [hs]; exact (xl_u8 uX).drop (by omega) _
  have ts : (topped (topB b) (xl X M)).drop (n - k) = s := by
    rw [hs]; unfold topped
    rw [List.drop_set_of_lt (by omega)]
  have lT : (topped (topB b) (xl X M)).length = n := by rw [topped_len, xl_len, lX]
  unfold holdsAt saltOf
  rw [← hk] at hn hl
  rw [eU, ← hk, ← hq, ← hS, ← hs, n0, ts]
  have main : X = topped (topB b) (xl (encDb n s) M) ↔ bits .andNot .u8 (nth X 0) (topB b) = 0 ∧ (∀ i, i < n - k - 1 → nth (topped (topB b) (xl X M)) i = 0) ∧ nth (topped (topB b) (xl X M)) (n - k - 1) = 1 := by
    rw [masked_iff (topB b) X M (encDb n s) (by omega) (by rw [encDb_len (by omega)]; omega) (by omega) uX (encDb_u8 us), topped_db b n s (by omega)]
    have e := encDb_iff n k (topped (topB b) (xl X M)) lT (by omega)
    rw [ts] at e
    rw [e]
  constructor
  · intro h1
    rw [eE] at h1
    obtain ⟨h2, h3⟩ := List.append_inj h1 (by rw [encBlk_len (by omega)]; exact lX)
    obtain ⟨h4, h5⟩ := List.append_inj h3 (by rw [encSum_len, lS, hk])
    have h6 : q = 188 := by simpa using h5
    unfold encBlk at h2
    rw [← h4, ← hM] at h2
    obtain ⟨m1, m2, m3⟩ := main.1 h2
    exact ⟨h6, m1, m2, m3, h4.symm⟩
  · rintro ⟨h6, m1, m2, m3, h4⟩
    have h2 := main.2 ⟨m1, m2, m3⟩
    rw [eE, h4, h6]
    unfold encBlk
    rw [h4, ← hM, ← h2]
end Go.Sg
