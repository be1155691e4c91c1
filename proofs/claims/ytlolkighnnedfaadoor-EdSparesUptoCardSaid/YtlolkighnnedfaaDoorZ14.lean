import Derived.Test.YtlolkighnnedfaaDoorZ10
import Derived.Test.YtlolkighnnedfaaDoorZ13
import Derived.Test.YtlolkighnnedfaaDoorZ1
/- The 32 bytes of a point, there and back. No program in sight. -/
set_option linter.unusedVariables false
set_option linter.unusedSimpArgs false
namespace Go.Sg
/-- The number of bytes, the lowest first. -/
def lnum (b : List Int) : Nat := bval b.reverse
/-- The number that a point's bytes are: y, and x's lowest bit on top. -/
def encN (P : Pt) : Nat := P.2.val + 2 ^ 255 * (P.1.val % 2)
def encB (P : Pt) : List Int := (beN (encN P) 32).reverse
def decN (n : Nat) : Option Pt :=
  if h : n % 2 ^ 255 < eP then (eRoot ⟨n % 2 ^ 255, h⟩ (decide (2 ^ 255 ≤ n))).map fun x => (x, ⟨n % 2 ^ 255, h⟩) else none
def decB (b : List Int) : Option Pt := if b.length = 32 then decN (lnum b) else none
theorem eP_lt : eP < 2 ^ 255 := by decide +kernel
theorem encN_lt (P : Pt) : encN P < 256 ^ 32 := by
  have h1 := P.2.isLt
  have h2 := eP_lt
  have h3 : (256 : Nat) ^ 32 = 2 ^ 255 * 2 := by decide +kernel
  unfold encN
  rw [h3]
  have : P.1.val % 2 < 2 := Nat.mod_lt _ (by decide)
  generalize (2 : Nat) ^ 255 = M at *
  rcases Nat.mod_two_eq_zero_or_one P.1.val with h | h <;> rw [h] <;> omega
theorem encB_len (P : Pt) : (encB P).length = 32 := by simp [encB, beN_len]
theorem lnum_encB (P : Pt) : lnum (encB P) = encN P := by
  unfold lnum encB
  rw [List.reverse_reverse, bval_beN _ _ (encN_lt P)]
theorem encN_mod (P : Pt) : encN P % 2 ^ 255 = P.2.val := by
  have h1 := P.2.isLt
  have h2 := eP_lt
  unfold encN
  rw [Nat.add_mul_mod_self_left]
  exact Nat.mod_eq_of_lt (by omega)
theorem encN_top (P : Pt) : decide (2 ^ 255 ≤ encN P) = eOdd P.1 := by
  have h1 := P.2.isLt
  have h2 := eP_lt
  unfold encN eOdd
  generalize (2 : Nat) ^ 255 = M at *
  rcases Nat.mod_two_eq_zero_or_one P.1.val with h | h <;> rw [h]
  · rw [decide_eq_false (by omega)]; rfl
  · rw [decide_eq_true (by omega)]; rfl
theorem decN_encN {P : Pt} (h : OnC P) : decN (encN P) = some P := by
  unfold decN
  rw [encN_top]
  have hm := encN_mod P
  generalize encN P % 2 ^ 255 = y at *
  subst hm
  rw [dif_pos P.2.isLt, eRoot_of h]
  rfl
theorem decB_encB {P : Pt} (h : OnC P) : decB (encB P) = some P := by
  unfold decB
  rw [if_pos (encB_len P), lnum_encB, decN_encN h]
theorem encB_inj {P Q : Pt} (h : OnC P) (hq : OnC Q) (e : encB P = encB Q) : P = Q := by
  have := decB_encB h
  rw [e, decB_encB hq] at this
  exact (Option.some.inj this).symm
theorem decN_on {n : Nat} {P : Pt} (h : decN n = some P) : OnC P ∧ P.2.val = n % 2 ^ 255 ∧ eOdd P.1 = decide (2 ^ 255 ≤ n) := by
  unfold decN at h
  split at h
  · rename_i hy
    cases hr : eRoot ⟨n % 2 ^ 255, hy⟩ (decide (2 ^ 255 ≤ n)) with
    | none => rw [hr] at h; cases h
    | some x =>
      rw [hr] at h
      obtain rfl := Option.some.inj h
      exact ⟨(eRoot_on hr).1, rfl, (eRoot_on hr).2⟩
  · cases h
theorem encN_decN {n : Nat} (hn : n < 256 ^ 32) {P : Pt} (h : decN n = some P) : encN P = n := by
  obtain ⟨_, h1, h2⟩ := decN_on h
  have h3 : (256 : Nat) ^ 32 = 2 ^ 255 * 2 := by decide +kernel
  unfold encN
  rw [h1]
  unfold eOdd at h2
  have h4 := Nat.div_add_mod n (2 ^ 255)
  have h5 : n / 2 ^ 255 < 2 := (Nat.div_lt_iff_lt_mul (Nat.pow_pos (by decide))).2 (by rw [h3, Nat.mul_comm] at hn; exact hn)
  have h6 : n / 2 ^ 255 = P.1.val % 2 := by
    rcases Nat.lt_or_ge n (2 ^ 255) with h | h
    · rw [decide_eq_false (by omega)] at h2
      have : P.1.val % 2 ≠ 1 := by simpa using h2
      rw [Nat.div_eq_of_lt h]
      have := Nat.mod_two_eq_zero_or_one P.1.val
      omega
    · rw [decide_eq_true h] at h2
      have h7 : P.1.val % 2 = 1 := by simpa using h2
      have h8 : 1 ≤ n / 2 ^ 255 := (Nat.le_div_iff_mul_le (Nat.pow_pos (by decide))).2 (by rw [Nat.one_mul]; exact h)
      rw [h7]
      exact Nat.le_antisymm (Nat.le_of_lt_succ h5) h8
  rw [← h6, Nat.add_comm]
  exact h4
theorem encB_decB {b : List Int} (u : U8 b.reverse) {P : Pt} (h : decB b = some P) : encB P = b := by
  unfold decB at h
  split at h
  · rename_i hl
    have hl' : b.reverse.length = 32 := by rw [List.length_reverse]; exact hl
    have hn : lnum b < 256 ^ 32 := by have := bval_lt u; rw [hl'] at this; exact this
    unfold encB
    rw [encN_decN hn h, lnum, beN_bval 32 b.reverse hl' u, List.reverse_reverse]
  · cases h
theorem decB_on {b : List Int} {P : Pt} (h : decB b = some P) : b.length = 32 ∧ OnC P := by
  unfold decB at h
  split at h
  · rename_i hl
    exact ⟨hl, (decN_on h).1⟩
  · cases h
end Go.Sg
/- When a signature holds, in plain words; there is one second half; what the mathematical signer makes is taken. No program in sight. -/
set_option linter.unusedVariables false
set_option linter.unusedSimpArgs false
namespace Go.Sg
/-- A signature holds for a point and a challenge. -/
def verE (A : Pt) (k : Nat) (sig : List Int) : Prop :=
  sig.length = 64 ∧ lnum (sig.drop 32) < eL ∧ encB (eAdd (eMul (lnum (sig.drop 32)) eB) (eMul k (eNeg A))) = sig.take 32
instance (A : Pt) (k : Nat) (sig : List Int) : Decidable (verE A k sig) := by unfold verE; infer_instance
theorem lnum_inj {s t : List Int} {n : Nat} (hs : s.length = n) (ht : t.length = n) (us : U8 s.reverse) (ut : U8 t.reverse) (e : lnum s = lnum t) : s = t := by
  have h1 := beN_bval n s.reverse (by rw [List.length_reverse, hs]) us
  have h2 := beN_bval n t.reverse (by rw [List.length_reverse, ht]) ut
  unfold lnum at e
  rw [e, h2] at h1
  exact (List.reverse_inj.1 h1).symm
theorem verE_one {A : Pt} {k : Nat} {f s t : List Int} (hA : OnC A) (hf : f.length = 32) (us : U8 s.reverse) (ut : U8 t.reverse) (h1 : verE A k (f ++ s)) (h2 : verE A k (f ++ t)) : s = t := by
  obtain ⟨l1, a1, b1⟩ := h1
  obtain ⟨l2, a2, b2⟩ := h2
  rw [List.drop_left' hf, List.take_left' hf] at *
  rw [List.length_append, hf] at l1 l2
  have hn := eMul_on (eNeg_on hA) k
  have e := encB_inj (eAdd_on (eMul_on eB_on _) hn) (eAdd_on (eMul_on eB_on _) hn) (b1.trans b2.symm)
  rw [eAdd_comm, eAdd_comm (eMul (lnum t) eB)] at e
  have e2 := eAdd_left hn (eMul_on eB_on _) (eMul_on eB_on _) e
  exact lnum_inj (n := 32) (by omega) (by omega) us ut (eMul_inj a1 a2 e2)
/-- The 32 bytes of a number, the lowest first. -/
def leB (n : Nat) : List Int := (beN n 32).reverse
theorem leB_len (n : Nat) : (leB n).length = 32 := by simp [leB, beN_len]
theorem lnum_leB {n : Nat} (h : n < 256 ^ 32) : lnum (leB n) = n := by
  unfold lnum leB
  rw [List.reverse_reverse, bval_beN _ _ h]
theorem eL_lt : eL < 256 ^ 32 := by decide +kernel
theorem eL_two : eL + eL < 256 ^ 32 := by decide +kernel
theorem eL_pos : 0 < eL := by decide +kernel
theorem signed {a r k : Nat} : verE (eMul a eB) k (encB (eMul r eB) ++ leB ((k * a + r) % eL)) := by
  have hl := Nat.mod_lt (k * a + r) eL_pos
  have hlt := eL_lt
  refine ⟨by rw [List.length_append, encB_len, leB_len], ?_, ?_⟩
  · rw [List.drop_left' (encB_len _), lnum_leB (by omega)]
    exact hl
  · rw [List.drop_left' (encB_len _), List.take_left' (encB_len _), lnum_leB (by omega), eMul_mod, eMul_add eB_on, Nat.mul_comm k a, eMul_mul eB_on, eAdd_comm (eMul k (eMul a eB))]
    have oa := eMul_on eB_on a
    rw [eAdd_assoc (eMul_on eB_on r) (eMul_on oa k) (eMul_on (eNeg_on oa) k), eMul_neg oa, eAdd_zero (eMul_on eB_on r)]
theorem signed_not {A : Pt} {k s : Nat} {f : List Int} (hf : f.length = 32) (hs : s < eL) : ¬ verE A k (f ++ leB (s + eL)) := by
  rintro ⟨_, h, _⟩
  have := eL_two
  rw [List.drop_left' hf, lnum_leB (by omega)] at h
  omega
/-- On the curve, as layer 13's laws ask it: 121666 (y^2 - x^2) = 121666 - 121665 x^2 y^2. -/
theorem on_121 (P : Pt) : OnC P ↔ (P.2 * P.2 - P.1 * P.1) * ⟨121666, by decide⟩ = ⟨121666, by decide⟩ - (P.1 * P.1) * (P.2 * P.2) * ⟨121665, by decide⟩ := by
  have hd : eD * ⟨121666, by decide⟩ = -⟨121665, by decide⟩ := by decide +kernel
  have hn : (⟨121666, by decide⟩ : Fp) ≠ 0 := by decide +kernel
  generalize (⟨121666, by decide⟩ : Fp) = c at *
  generalize (⟨121665, by decide⟩ : Fp) = b at *
  unfold OnC
  constructor
  · intro h
    grind
  · intro h
    refine fp_cancel hn ?_
    grind
end Go.Sg
/- The standard's first signature, reckoned by the kernel. (Printed by gen_edknown.py.) -/
set_option linter.unusedVariables false
set_option linter.unusedSimpArgs false
namespace Go.Sg
def pub0 : List Int := [215, 90, 152, 1, 130, 177, 10, 183, 213, 75, 254, 211, 201, 100, 7, 58, 14, 225, 114, 243, 218, 166, 35, 37, 175, 2, 26, 104, 247, 7, 81, 26]
def sig0 : List Int := [229, 86, 67, 0, 195, 96, 172, 114, 144, 134, 226, 204, 128, 110, 130, 138, 132, 135, 127, 30, 184, 229, 217, 116, 216, 115, 224, 101, 34, 73, 1, 85, 95, 184, 130, 21, 144, 163, 59, 172, 198, 30, 57, 112, 28, 249, 180, 107, 210, 91, 245, 240, 89, 91, 190, 36, 101, 81, 65, 67, 142, 122, 16, 11]
def first0 : List Int := [229, 86, 67, 0, 195, 96, 172, 114, 144, 134, 226, 204, 128, 110, 130, 138, 132, 135, 127, 30, 184, 229, 217, 116, 216, 115, 224, 101, 34, 73, 1, 85]
def s0 : Nat := 5004556735901913393272427758925840403246877222315506387332009764265656498271
/-- The challenges of nothing and of "x". -/
def k01 : Nat := 1958233733501237659471134851339390337284068724042047466985993338226439154310
def k02 : Nat := 7105053535885340757715205778169356927404386393052748833402476575000598598480
def A0 : Pt := (⟨38815646466658113194383306759739515082307681141926459231621296960732224964046, by decide⟩, ⟨11903303657706407974989296177215005343713679411332034699907763981919547054807, by decide⟩)
def R0 : Pt := (⟨44370630452101398467924320556439323233869374150616132215183787387252341590058, by decide⟩, ⟨38448863731492799660668882834560725606410712239157980760146247592118262650597, by decide⟩)
theorem A0_on : OnC A0 := by decide +kernel
theorem R0_on : OnC R0 := by decide +kernel
theorem A0_enc : encB A0 = pub0 := by decide +kernel
theorem R0_enc : encB R0 = first0 := by decide +kernel
theorem A0_dec : decB pub0 = some A0 := by rw [← A0_enc]; exact decB_encB A0_on
def Sp.sameP (s : Sp) (P : Pt) : Bool := decide (s.x = P.1 * s.z) && decide (s.y = P.2 * s.z)
theorem Sp.sameP_is {s : Sp} {P Q : Pt} (h : s.is P) : s.sameP Q = true ↔ P = Q := by
  obtain ⟨hz, hx, hy, _⟩ := h
  simp only [Sp.sameP, Bool.and_eq_true, decide_eq_true_eq]
  constructor
  · rintro ⟨h1, h2⟩
    exact Prod.ext (fp_cancel hz (by grind)) (fp_cancel hz (by grind))
  · rintro rfl
    exact ⟨hx, hy⟩
theorem sum0 (k : Nat) (hk : k < 2 ^ 253) : ((spg (Sp.of eB) 253 s0).plus (spg (Sp.of (eNeg A0)) 253 k)).is (eAdd (eMul s0 eB) (eMul k (eNeg A0))) :=
  Sp.plus_is (spg_is (Sp.of_is eB) eB_on 253 s0 (by decide +kernel)) (spg_is (Sp.of_is (eNeg A0)) (eNeg_on A0_on) 253 k hk) (eMul_on eB_on _) (eMul_on (eNeg_on A0_on) _)
theorem sum01 : eAdd (eMul s0 eB) (eMul k01 (eNeg A0)) = R0 := (Sp.sameP_is (sum0 k01 (by decide +kernel))).1 (by decide +kernel)
theorem sum02 : eAdd (eMul s0 eB) (eMul k02 (eNeg A0)) ≠ R0 := fun h => absurd ((Sp.sameP_is (sum0 k02 (by decide +kernel))).2 h) (by decide +kernel)
theorem s0_num : lnum (sig0.drop 32) = s0 := by decide +kernel
theorem known01 : verE A0 k01 sig0 := ⟨rfl, by rw [s0_num]; decide +kernel, by rw [s0_num, sum01, R0_enc]; rfl⟩
theorem known02 : ¬ verE A0 k02 sig0 := by
  rintro ⟨_, _, h⟩
  rw [s0_num] at h
  have e : sig0.take 32 = encB R0 := by rw [R0_enc]; rfl
  rw [e] at h
  exact sum02 (encB_inj (eAdd_on (eMul_on eB_on _) (eMul_on (eNeg_on A0_on) _)) R0_on h)
theorem two_no : eAdd eB eB ≠ eB := by
  intro h
  have : eAdd eB eB = eAdd eB eO := by rw [h, eAdd_zero eB_on]
  exact eB_no (eAdd_left eB_on eB_on eO_on this)
end Go.Sg
/- The challenges of the standard's first signature, by the kernel. -/
set_option linter.unusedVariables false
set_option linter.unusedSimpArgs false
namespace Go.Sg
set_option maxRecDepth 100000 in
theorem k01_sha : lnum (sha 3 (first0 ++ pub0)) % eL = k01 := by decide +kernel
set_option maxRecDepth 100000 in
theorem k02_sha : lnum (sha 3 (first0 ++ pub0 ++ [120])) % eL = k02 := by decide +kernel
/-- The challenge of a first half, a key and a message. -/
def chal (first pub msg : List Int) : Nat := lnum (sha 3 (first ++ pub ++ msg)) % eL
end Go.Sg
