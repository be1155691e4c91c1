/- SHA-2 in plain words: the schedule, the rounds, blocks, padding. No program in sight. -/
import Derived.Test.YtnlmkikaaifcmaaDoorBase
set_option linter.unusedVariables false
set_option linter.unusedSimpArgs false
namespace Go.Sg

/-- A word as a whole number. -/
def wi {n : Nat} (v : BitVec n) : Int := (v.toNat : Int)
theorem wi_rng32 (v : BitVec 32) : 0 ≤ wi v ∧ wi v ≤ 4294967295 := by have := v.isLt; unfold wi; omega
theorem wi_rng64 (v : BitVec 64) : 0 ≤ wi v ∧ wi v ≤ 18446744073709551615 := by have := v.isLt; unfold wi; omega

/-- Eight words. -/
structure S8 (n : Nat) where
  a : BitVec n
  b : BitVec n
  c : BitVec n
  d : BitVec n
  e : BitVec n
  f : BitVec n
  g : BitVec n
  h : BitVec n
def S8.list {n : Nat} (s : S8 n) : List (BitVec n) := [s.a, s.b, s.c, s.d, s.e, s.f, s.g, s.h]
def S8.of {n : Nat} (l : List (BitVec n)) : S8 n := ⟨l.getD 0 0, l.getD 1 0, l.getD 2 0, l.getD 3 0, l.getD 4 0, l.getD 5 0, l.getD 6 0, l.getD 7 0⟩
theorem S8.of_list {n : Nat} (s : S8 n) : S8.of s.list = s := rfl
def S8.plus {n : Nat} (s t : S8 n) : S8 n := ⟨s.a + t.a, s.b + t.b, s.c + t.c, s.d + t.d, s.e + t.e, s.f + t.f, s.g + t.g, s.h + t.h⟩

/-- Turned to the right by n of n + k bits. -/
def turn {m : Nat} (x : BitVec m) (n k : Nat) : BitVec m := x >>> n ||| x <<< k
def ch {n : Nat} (e f g : BitVec n) : BitVec n := g ^^^ (e &&& (f ^^^ g))
def maj {n : Nat} (a b c : BitVec n) : BitVec n := (a &&& b) ||| (c &&& (a ||| b))

/-! ### words of 32 bits -/
def sig32 (y x : BitVec 32) (w16 w7 : BitVec 32) : BitVec 32 :=
  w16 + w7 + (turn x 7 25 ^^^ turn x 18 14 ^^^ x >>> 3) + (turn y 17 15 ^^^ turn y 19 13 ^^^ y >>> 10)
def next32 (w : List (BitVec 32)) : BitVec 32 :=
  sig32 (w.getD (w.length - 2) 0) (w.getD (w.length - 15) 0) (w.getD (w.length - 16) 0) (w.getD (w.length - 7) 0)
def sched32 (m : List (BitVec 32)) : Nat → List (BitVec 32)
  | 0 => m
  | k + 1 => sched32 m k ++ [next32 (sched32 m k)]
def tt32 (s : S8 32) (k w : BitVec 32) : BitVec 32 := s.h + (turn s.e 6 26 ^^^ turn s.e 11 21 ^^^ turn s.e 25 7) + ch s.e s.f s.g + k + w
def uu32 (s : S8 32) : BitVec 32 := (turn s.a 2 30 ^^^ turn s.a 13 19 ^^^ turn s.a 22 10) + maj s.a s.b s.c
def round32 (s : S8 32) (k w : BitVec 32) : S8 32 := ⟨tt32 s k w + uu32 s, s.a, s.b, s.c, s.d + tt32 s k w, s.e, s.f, s.g⟩
def rounds32 (K W : List (BitVec 32)) (s : S8 32) : Nat → S8 32
  | 0 => s
  | k + 1 => round32 (rounds32 K W s k) (K.getD k 0) (W.getD k 0)
/-- The word of four bytes from p on. -/
def word32 (bs : List Int) (p : Nat) : BitVec 32 := .ofNat 32 ((nth bs p).toNat * 16777216 + (nth bs (p + 1)).toNat * 65536 + (nth bs (p + 2)).toNat * 256 + (nth bs (p + 3)).toNat)
def words32 (bs : List Int) (p n : Nat) : List (BitVec 32) := (List.range n).map fun i => word32 bs (p + 4 * i)
def block32 (K : List (BitVec 32)) (s : S8 32) (bs : List Int) (p : Nat) : S8 32 := s.plus (rounds32 K (sched32 (words32 bs p 16) 48) s 64)
def blocks32 (K : List (BitVec 32)) (s : S8 32) (bs : List Int) : Nat → S8 32
  | 0 => s
  | k + 1 => block32 K (blocks32 K s bs k) bs (64 * k)

/-! ### words of 64 bits -/
def sig64 (y x : BitVec 64) (w16 w7 : BitVec 64) : BitVec 64 :=
  w16 + w7 + (turn x 1 63 ^^^ turn x 8 56 ^^^ x >>> 7) + (turn y 19 45 ^^^ turn y 61 3 ^^^ y >>> 6)
def next64 (w : List (BitVec 64)) : BitVec 64 :=
  sig64 (w.getD (w.length - 2) 0) (w.getD (w.length - 15) 0) (w.getD (w.length - 16) 0) (w.getD (w.length - 7) 0)
def sched64 (m : List (BitVec 64)) : Nat → List (BitVec 64)
  | 0 => m
  | k + 1 => sched64 m k ++ [next64 (sched64 m k)]
def tt64 (s : S8 64) (k w : BitVec 64) : BitVec 64 := s.h + (turn s.e 14 50 ^^^ turn s.e 18 46 ^^^ turn s.e 41 23) + ch s.e s.f s.g + k + w
def uu64 (s : S8 64) : BitVec 64 := (turn s.a 28 36 ^^^ turn s.a 34 30 ^^^ turn s.a 39 25) + maj s.a s.b s.c
def round64 (s : S8 64) (k w : BitVec 64) : S8 64 := ⟨tt64 s k w + uu64 s, s.a, s.b, s.c, s.d + tt64 s k w, s.e, s.f, s.g⟩
def rounds64 (K W : List (BitVec 64)) (s : S8 64) : Nat → S8 64
  | 0 => s
  | k + 1 => round64 (rounds64 K W s k) (K.getD k 0) (W.getD k 0)
/-- The number of the first n of eight bytes from p on. -/
def part64 (bs : List Int) (p : Nat) : Nat → BitVec 64
  | 0 => 0
  | n + 1 => part64 bs p n <<< 8 ||| .ofNat 64 (nth bs (p + n)).toNat
def words64 (bs : List Int) (p n : Nat) : List (BitVec 64) := (List.range n).map fun i => part64 bs (p + 8 * i) 8
def block64 (K : List (BitVec 64)) (s : S8 64) (bs : List Int) (p : Nat) : S8 64 := s.plus (rounds64 K (sched64 (words64 bs p 16) 64) s 80)
def blocks64 (K : List (BitVec 64)) (s : S8 64) (bs : List Int) : Nat → S8 64
  | 0 => s
  | k + 1 => block64 K (blocks64 K s bs k) bs (128 * k)

/-! ### padding -/
/-- How many noughts stand ahead of the length. -/
def gap (block field n : Nat) : Nat := (2 * block - field - 1 - n % block) % block
/-- The length in bits, in so many bytes. -/
def lenB (n k : Nat) : List Int := (List.range k).map fun i => ((8 * n / 256 ^ (k - 1 - i) % 256 : Nat) : Int)
def tail_ (block field n : Nat) : List Int := 128 :: (List.replicate (gap block field n) 0 ++ lenB n field)
def padded (block field : Nat) (bs : List Int) : List Int := bs ++ tail_ block field bs.length

def bytes32 (v : BitVec 32) : List Int := [(v.toNat / 16777216 % 256 : Nat), (v.toNat / 65536 % 256 : Nat), (v.toNat / 256 % 256 : Nat), (v.toNat % 256 : Nat)]
def bytes64 (v : BitVec 64) : List Int := (List.range 8).map fun i => ((v.toNat / 256 ^ (7 - i) % 256 : Nat) : Int)

def K256 : List (BitVec 32) := [
  0x428a2f98, 0x71374491, 0xb5c0fbcf, 0xe9b5dba5, 0x3956c25b, 0x59f111f1, 0x923f82a4, 0xab1c5ed5,
  0xd807aa98, 0x12835b01, 0x243185be, 0x550c7dc3, 0x72be5d74, 0x80deb1fe, 0x9bdc06a7, 0xc19bf174,
  0xe49b69c1, 0xefbe4786, 0x0fc19dc6, 0x240ca1cc, 0x2de92c6f, 0x4a7484aa, 0x5cb0a9dc, 0x76f988da,
  0x983e5152, 0xa831c66d, 0xb00327c8, 0xbf597fc7, 0xc6e00bf3, 0xd5a79147, 0x06ca6351, 0x14292967,
  0x27b70a85, 0x2e1b2138, 0x4d2c6dfc, 0x53380d13, 0x650a7354, 0x766a0abb, 0x81c2c92e, 0x92722c85,
  0xa2bfe8a1, 0xa81a664b, 0xc24b8b70, 0xc76c51a3, 0xd192e819, 0xd6990624, 0xf40e3585, 0x106aa070,
  0x19a4c116, 0x1e376c08, 0x2748774c, 0x34b0bcb5, 0x391c0cb3, 0x4ed8aa4a, 0x5b9cca4f, 0x682e6ff3,
  0x748f82ee, 0x78a5636f, 0x84c87814, 0x8cc70208, 0x90befffa, 0xa4506ceb, 0xbef9a3f7, 0xc67178f2]
def K512 : List (BitVec 64) := [
  0x428a2f98d728ae22, 0x7137449123ef65cd, 0xb5c0fbcfec4d3b2f, 0xe9b5dba58189dbbc,
  0x3956c25bf348b538, 0x59f111f1b605d019, 0x923f82a4af194f9b, 0xab1c5ed5da6d8118,
  0xd807aa98a3030242, 0x12835b0145706fbe, 0x243185be4ee4b28c, 0x550c7dc3d5ffb4e2,
  0x72be5d74f27b896f, 0x80deb1fe3b1696b1, 0x9bdc06a725c71235, 0xc19bf174cf692694,
  0xe49b69c19ef14ad2, 0xefbe4786384f25e3, 0x0fc19dc68b8cd5b5, 0x240ca1cc77ac9c65,
  0x2de92c6f592b0275, 0x4a7484aa6ea6e483, 0x5cb0a9dcbd41fbd4, 0x76f988da831153b5,
  0x983e5152ee66dfab, 0xa831c66d2db43210, 0xb00327c898fb213f, 0xbf597fc7beef0ee4,
  0xc6e00bf33da88fc2, 0xd5a79147930aa725, 0x06ca6351e003826f, 0x142929670a0e6e70,
  0x27b70a8546d22ffc, 0x2e1b21385c26c926, 0x4d2c6dfc5ac42aed, 0x53380d139d95b3df,
  0x650a73548baf63de, 0x766a0abb3c77b2a8, 0x81c2c92e47edaee6, 0x92722c851482353b,
  0xa2bfe8a14cf10364, 0xa81a664bbc423001, 0xc24b8b70d0f89791, 0xc76c51a30654be30,
  0xd192e819d6ef5218, 0xd69906245565a910, 0xf40e35855771202a, 0x106aa07032bbd1b8,
  0x19a4c116b8d2d0c8, 0x1e376c085141ab53, 0x2748774cdf8eeb99, 0x34b0bcb5e19b48a8,
  0x391c0cb3c5c95a63, 0x4ed8aa4ae3418acb, 0x5b9cca4f7763e373, 0x682e6ff3d6b2b8a3,
  0x748f82ee5defb2fc, 0x78a5636f43172f60, 0x84c87814a1f0ab72, 0x8cc702081a6439ec,
  0x90befffa23631e28, 0xa4506cebde82bde9, 0xbef9a3f7b2c67915, 0xc67178f2e372532b,
  0xca273eceea26619c, 0xd186b8c721c0c207, 0xeada7dd6cde0eb1e, 0xf57d4f7fee6ed178,
  0x06f067aa72176fba, 0x0a637dc5a2c898a6, 0x113f9804bef90dae, 0x1b710b35131c471b,
  0x28db77f523047d84, 0x32caab7b40c72493, 0x3c9ebe0a15c9bebc, 0x431d67c49c100d4c,
  0x4cc5d4becb3e42b6, 0x597f299cfc657e2a, 0x5fcb6fab3ad6faec, 0x6c44198c4a475817]
def start256 : S8 32 := ⟨0x6a09e667, 0xbb67ae85, 0x3c6ef372, 0xa54ff53a, 0x510e527f, 0x9b05688c, 0x1f83d9ab, 0x5be0cd19⟩
def start384 : S8 64 := ⟨0xcbbb9d5dc1059ed8, 0x629a292a367cd507, 0x9159015a3070dd17, 0x152fecd8f70e5939, 0x67332667ffc00b31, 0x8eb44a8768581511, 0xdb0c2e0d64f98fa7, 0x47b5481dbefa4fa4⟩
def start512 : S8 64 := ⟨0x6a09e667f3bcc908, 0xbb67ae8584caa73b, 0x3c6ef372fe94f82b, 0xa54ff53a5f1d36f1, 0x510e527fade682d1, 0x9b05688c2b3e6c1f, 0x1f83d9abfb41bd6b, 0x5be0cd19137e2179⟩

def sum32 (s : S8 32) (bs : List Int) : List Int := (blocks32 K256 s (padded 64 8 bs) ((padded 64 8 bs).length / 64)).list.flatMap bytes32
def sum64 (s : S8 64) (bs : List Int) : List Int := (blocks64 K512 s (padded 128 16 bs) ((padded 128 16 bs).length / 128)).list.flatMap bytes64
/-- The sum of a text. -/
def sha (h : Int) (bs : List Int) : List Int :=
  if h = 1 then sum32 start256 bs else if h = 2 then (sum64 start384 bs).take 48 else if h = 3 then sum64 start512 bs else []
def shaSize (h : Int) : Nat := if h = 1 then 32 else if h = 2 then 48 else if h = 3 then 64 else 0
def shaBlock (h : Int) : Nat := if h = 1 then 64 else if h = 2 then 128 else if h = 3 then 128 else 0

set_option maxRecDepth 100000 in
theorem sha_abc256 : sha 1 [97, 98, 99] = [0xba, 0x78, 0x16, 0xbf, 0x8f, 0x01, 0xcf, 0xea, 0x41, 0x41, 0x40, 0xde, 0x5d, 0xae, 0x22, 0x23, 0xb0, 0x03, 0x61, 0xa3, 0x96, 0x17, 0x7a, 0x9c, 0xb4, 0x10, 0xff, 0x61, 0xf2, 0x00, 0x15, 0xad] := by decide +kernel
set_option maxRecDepth 100000 in
theorem sha_abc512 : nth (sha 3 [97, 98, 99]) 0 = 0xdd ∧ nth (sha 3 [97, 98, 99]) 63 = 0x9f := by decide +kernel
set_option maxRecDepth 100000 in
theorem sha_abc384 : nth (sha 2 [97, 98, 99]) 0 = 0xcb ∧ nth (sha 2 [97, 98, 99]) 47 = 0xa7 := by decide +kernel
end Go.Sg
