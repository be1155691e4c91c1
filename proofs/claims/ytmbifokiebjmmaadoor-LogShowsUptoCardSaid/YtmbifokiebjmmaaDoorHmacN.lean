/- HMAC in plain words. No program in sight. -/
import Derived.Test.YtmbifokiebjmmaaDoorShaH
set_option linter.unusedVariables false
set_option linter.unusedSimpArgs false
namespace Go.Sg
open Go.RowKit

/-- A byte xor another one. -/
def bx (x y : Int) : Int := bits .xor .u8 x y
theorem wrap8_of (v : BitVec 8) : IntKind.u8.wrap ((v.toNat : Nat) : Int) = (v.toNat : Int) := by
  have := v.isLt
  rw [IntKind.wrap_u8']; omega
theorem bx_eq (x y : Int) : bx x y = ((BitVec.ofInt 8 x ^^^ BitVec.ofInt 8 y).toNat : Int) := by
  unfold bx bits
  simp only [IntKind.bits]
  exact wrap8_of _
theorem bx_rng (x y : Int) : 0 ≤ bx x y ∧ bx x y ≤ 255 := by
  have := (BitVec.ofInt 8 x ^^^ BitVec.ofInt 8 y).isLt
  rw [bx_eq]; omega
theorem ofInt8_inj {x y : Int} (hx : 0 ≤ x ∧ x ≤ 255) (hy : 0 ≤ y ∧ y ≤ 255) (h : BitVec.ofInt 8 x = BitVec.ofInt 8 y) : x = y := by
  have := congrArg BitVec.toNat h
  rw [BitVec.toNat_ofInt, BitVec.toNat_ofInt] at this
  omega
theorem ofInt8_toNat {x : Int} (hx : 0 ≤ x ∧ x ≤ 255) : ((BitVec.ofInt 8 x).toNat : Int) = x := by
  rw [BitVec.toNat_ofInt]; omega
theorem bx_self_iff {x y : Int} (hx : 0 ≤ x ∧ x ≤ 255) (hy : 0 ≤ y ∧ y ≤ 255) : bx x y = x ↔ y = 0 := by
  constructor
  · intro h
    rw [bx_eq] at h
    have h2 : BitVec.ofInt 8 x ^^^ BitVec.ofInt 8 y = BitVec.ofInt 8 x := by
      apply BitVec.eq_of_toNat_eq
      have := ofInt8_toNat hx
      omega
    have h3 : BitVec.ofInt 8 y = BitVec.ofInt 8 0 := by
      have : BitVec.ofInt 8 x ^^^ (BitVec.ofInt 8 x ^^^ BitVec.ofInt 8 y) = BitVec.ofInt 8 x ^^^ BitVec.ofInt 8 x := by rw [h2]
      rw [← BitVec.xor_assoc, BitVec.xor_self, BitVec.zero_xor] at this
      exact this
    exact ofInt8_inj hy (by omega) h3
  · rintro rfl
    rw [bx_eq, show BitVec.ofInt 8 0 = 0#8 from rfl, BitVec.xor_zero]
    exact ofInt8_toNat hx

/-- The key as it is put into a block. -/
def hkeyOf (h : Int) (k : List Int) : List Int := if shaBlock h < k.length then sha h k else k
def key0 (h : Int) (k : List Int) : List Int := hkeyOf h k ++ List.replicate (shaBlock h - (hkeyOf h k).length) 0
def hfill (h : Int) (k : List Int) (x : Int) : List Int := (key0 h k).map fun b => bx b x
def hmac (h : Int) (k d : List Int) : List Int := if IsHash h then sha h (hfill h k 0x5c ++ sha h (hfill h k 0x36 ++ d)) else []

theorem IsHash.size_le {h : Int} (hh : IsHash h) : shaSize h ≤ shaBlock h ∧ 0 < shaSize h ∧ shaSize h ≤ 64 ∧ 64 ≤ shaBlock h ∧ shaBlock h ≤ 128 := by
  rcases hh with rfl | rfl | rfl <;> decide
theorem shaSize_no {h : Int} (hh : ¬ IsHash h) : shaSize h = 0 := by
  unfold shaSize
  rw [if_neg fun e => hh (.inl e), if_neg fun e => hh (.inr (.inl e)), if_neg fun e => hh (.inr (.inr e))]
theorem shaBlock_no {h : Int} (hh : ¬ IsHash h) : shaBlock h = 0 := by
  unfold shaBlock
  rw [if_neg fun e => hh (.inl e), if_neg fun e => hh (.inr (.inl e)), if_neg fun e => hh (.inr (.inr e))]
theorem size_le_block (h : Int) : shaSize h ≤ shaBlock h := by
  by_cases hh : IsHash h
  · exact hh.size_le.1
  · rw [shaSize_no hh]; omega
theorem hkeyOf_len' {h : Int} (k : List Int) : (hkeyOf h k).length ≤ shaBlock h := by
  unfold hkeyOf
  split
  · rw [sha_len]; exact size_le_block h
  · omega
theorem hkeyOf_len {h : Int} (k : List Int) (hh : IsHash h) : (hkeyOf h k).length ≤ shaBlock h := hkeyOf_len' k
theorem key0_len' {h : Int} (k : List Int) : (key0 h k).length = shaBlock h := by
  have := hkeyOf_len' (h := h) k
  simp [key0]; omega
theorem key0_len {h : Int} (k : List Int) (hh : IsHash h) : (key0 h k).length = shaBlock h := by
  have := hkeyOf_len k hh
  simp [key0]; omega
theorem hkeyOf_u8 {h : Int} {k : List Int} (u : U8 k) : U8 (hkeyOf h k) := by
  unfold hkeyOf
  split
  · exact sha_u8 _ _
  · exact u
theorem key0_u8 {h : Int} {k : List Int} (u : U8 k) : U8 (key0 h k) := (hkeyOf_u8 u).append (by omega) (InR.zeros (by omega) _)
theorem map_bx_u8 (l : List Int) (x : Int) : U8 (l.map fun b => bx b x) := .of_mem (by omega) (by
  intro y hy
  obtain ⟨b, _, rfl⟩ := List.mem_map.1 hy
  exact bx_rng _ _)
theorem hfill_u8 (h : Int) (k : List Int) (x : Int) : U8 (hfill h k x) := map_bx_u8 _ _
theorem hfill_len {h : Int} (k : List Int) (x : Int) (hh : IsHash h) : (hfill h k x).length = shaBlock h := by rw [hfill, List.length_map, key0_len k hh]
theorem hmac_no {h : Int} (hh : ¬ IsHash h) (k d : List Int) : hmac h k d = [] := if_neg hh
theorem hmac_is {h : Int} (hh : IsHash h) (k d : List Int) : hmac h k d = sha h (hfill h k 0x5c ++ sha h (hfill h k 0x36 ++ d)) := if_pos hh
theorem hmac_len {h : Int} (hh : IsHash h) (k d : List Int) : (hmac h k d).length = shaSize h := by rw [hmac_is hh, sha_len]
theorem hmac_u8 (h : Int) (k d : List Int) : U8 (hmac h k d) := by
  unfold hmac
  split
  · exact sha_u8 _ _
  · exact .nil (by omega)
/-- A filled key is its own filled key. -/
theorem key0_key0 {h : Int} (k : List Int) (hh : IsHash h) : key0 h (key0 h k) = key0 h k := by
  have hl := key0_len k hh
  have e : hkeyOf h (key0 h k) = key0 h k := by unfold hkeyOf; rw [if_neg (by omega)]
  show hkeyOf h (key0 h k) ++ List.replicate (shaBlock h - (hkeyOf h (key0 h k)).length) 0 = _
  rw [e, hl]; simp
theorem hmac_key0 (h : Int) (k d : List Int) (hh : IsHash h) : hmac h (key0 h k) d = hmac h k d := by
  rw [hmac_is hh, hmac_is hh]; unfold hfill; rw [key0_key0 k hh]
/-- Noughts behind a key that is no longer than a block change nothing. -/
theorem hmac_noughts {h : Int} (k d : List Int) (n : Nat) (hh : IsHash h) (hn : k.length + n ≤ shaBlock h) : hmac h (k ++ List.replicate n 0) d = hmac h k d := by
  have e : key0 h (k ++ List.replicate n 0) = key0 h k := by
    unfold key0 hkeyOf
    rw [if_neg (by simp; omega), if_neg (by omega), List.append_assoc, List.replicate_append_replicate]
    simp only [List.length_append, List.length_replicate]
    rw [show n + (shaBlock h - (k.length + n)) = shaBlock h - k.length by omega]
  rw [hmac_is hh, hmac_is hh]; unfold hfill; rw [e]

def jefe : List Int := [74, 101, 102, 101]
def want_ : List Int := [119, 104, 97, 116, 32, 100, 111, 32, 121, 97, 32, 119, 97, 110, 116, 32, 102, 111, 114, 32, 110, 111, 116, 104, 105, 110, 103, 63]
set_option maxRecDepth 100000 in
theorem hmac_jefe : nth (hmac 1 jefe want_) 0 = 0x5b ∧ nth (hmac 1 jefe want_) 31 = 0x43 := by decide +kernel
end Go.Sg
