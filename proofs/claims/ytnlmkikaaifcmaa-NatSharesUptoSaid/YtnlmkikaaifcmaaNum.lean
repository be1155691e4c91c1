/- Numbers of base 2^32 as lists of limbs, the lowest first; numbers of bytes, the highest first. Plain arithmetic. -/
import Derived.Test.YtnlmkikaaifcmaaBase
set_option linter.unusedVariables false
set_option linter.unusedSimpArgs false
namespace Go.Sg

/-- The base. -/
def R : Nat := 4294967296
theorem R_eq : R = 4294967296 := rfl
theorem R_pos : 0 < R := by decide
theorem Rpow_pos (k : Nat) : 0 < R ^ k := Nat.pow_pos R_pos
theorem Rpow_succ (k : Nat) : R ^ (k + 1) = R * R ^ k := by rw [Nat.pow_succ, Nat.mul_comm]
theorem Rpow_two (k : Nat) : R ^ k = 2 ^ (32 * k) := by rw [R, show (4294967296 : Nat) = 2 ^ 32 from rfl, ← Nat.pow_mul]

/-- A limb as a natural number. -/
def lb (xs : List Int) (i : Nat) : Nat := (nth xs i).toNat

def val : List Int → Nat
  | [] => 0
  | x :: xs => x.toNat + R * val xs

theorem val_nil : val [] = 0 := rfl
theorem val_append (xs ys : List Int) : val (xs ++ ys) = val xs + R ^ xs.length * val ys := by
  induction xs with
  | nil => simp [val]
  | cons x xs ih => simp only [List.cons_append, val, ih, List.length_cons, Rpow_succ, Nat.mul_add, Nat.mul_assoc]; omega
theorem val_one (x : Int) : val [x] = x.toNat := by simp [val]
theorem val_snoc (xs : List Int) (x : Int) : val (xs ++ [x]) = val xs + R ^ xs.length * x.toNat := by rw [val_append, val_one]
theorem val_take_succ (xs : List Int) (k : Nat) (h : k < xs.length) : val (xs.take (k + 1)) = val (xs.take k) + R ^ k * lb xs k := by
  rw [take_succ_nth _ _ h, val_snoc, lb, List.length_take, Nat.min_eq_left (by omega)]
theorem val_split (xs : List Int) (k : Nat) (h : k ≤ xs.length) : val xs = val (xs.take k) + R ^ k * val (xs.drop k) := by
  conv => lhs; rw [← List.take_append_drop k xs]
  rw [val_append, List.length_take, Nat.min_eq_left h]
theorem val_drop (xs : List Int) (k : Nat) (h : k < xs.length) : val (xs.drop k) = lb xs k + R * val (xs.drop (k + 1)) := by
  rw [drop_nth _ _ h, val, lb]
theorem val_zeros (n : Nat) : val (List.replicate n 0) = 0 := by
  induction n with
  | zero => rfl
  | succ n ih => simp [List.replicate_succ, val, ih]
theorem val_zeros_append (n : Nat) (xs : List Int) : val (List.replicate n 0 ++ xs) = R ^ n * val xs := by rw [val_append, val_zeros, List.length_replicate, Nat.zero_add]
theorem lb_lt {xs : List Int} (h : U32 xs) (i : Nat) : lb xs i < R := by have := h i; unfold lb R; omega
theorem lb_cast {xs : List Int} (h : U32 xs) (i : Nat) : ((lb xs i : Nat) : Int) = nth xs i := by have := h i; unfold lb; omega
theorem val_lt {xs : List Int} (h : U32 xs) : val xs < R ^ xs.length := by
  induction xs with
  | nil => simp [val]
  | cons x xs ih =>
    have h1 : U32 xs := .of_mem (by omega) fun y hy => h.mem y (by simp [hy])
    have h2 := h.mem x (by simp)
    have h3 := ih h1
    simp only [val, List.length_cons, Rpow_succ]
    have h4 : x.toNat < R := by unfold R; omega
    have h5 : R * (val xs + 1) ≤ R * R ^ xs.length := Nat.mul_le_mul_left _ h3
    rw [Nat.mul_add] at h5
    omega
theorem val_take_lt {xs : List Int} (h : U32 xs) (k : Nat) (hk : k ≤ xs.length) : val (xs.take k) < R ^ k := by
  have := val_lt (h.take (by omega) k)
  rwa [List.length_take, Nat.min_eq_left hk] at this
theorem val_set (xs : List Int) (i : Nat) (x : Int) (h : i < xs.length) : val (xs.set i x) + R ^ i * lb xs i = val xs + R ^ i * x.toNat := by
  have e1 : (xs.set i x).take i = xs.take i := by rw [List.take_set_of_le (Nat.le_refl _)]
  have e2 : (xs.set i x).drop (i + 1) = xs.drop (i + 1) := by rw [List.drop_set_of_lt (by omega)]
  have e3 := val_split (xs.set i x) i (by simp; omega)
  have e4 := val_drop (xs.set i x) i (by simpa using h)
  have e5 := val_split xs i (by omega)
  have e6 := val_drop xs i h
  have e7 : lb (xs.set i x) i = x.toNat := by rw [lb, nth_set _ _ _ _ h, if_pos rfl]
  rw [e3, e4, e5, e6, e1, e2, e7]
  simp only [Nat.mul_add]
  omega

/-- How many limbs are left without noughts on top. -/
def topz : List Int → Nat
  | [] => 0
  | x :: xs => if topz xs = 0 ∧ x = 0 then 0 else topz xs + 1
theorem topz_le (xs : List Int) : topz xs ≤ xs.length := by
  induction xs with
  | nil => simp [topz]
  | cons x xs ih => simp only [topz, List.length_cons]; split <;> omega
theorem topz_snoc0 (zs : List Int) : topz (zs ++ [0]) = topz zs := by
  induction zs with
  | nil => simp [topz]
  | cons x xs ih => simp [topz, ih]
theorem topz_snoc (zs : List Int) (x : Int) (h : x ≠ 0) : topz (zs ++ [x]) = zs.length + 1 := by
  induction zs with
  | nil => simp [topz, h]
  | cons x xs ih => simp [topz, ih]
theorem topz_down (zs : List Int) (k : Nat) (hk : 0 < k) (hl : k ≤ zs.length) (h : nth zs (k - 1) = 0) : topz (zs.take k) = topz (zs.take (k - 1)) := by
  obtain ⟨j, rfl⟩ : ∃ j, k = j + 1 := ⟨k - 1, by omega⟩
  simp only [Nat.add_sub_cancel] at *
  rw [take_succ_nth _ _ (by omega), h, topz_snoc0]
theorem topz_stop (zs : List Int) (k : Nat) (hk : 0 < k) (hl : k ≤ zs.length) (h : ¬ nth zs (k - 1) = 0) : topz (zs.take k) = k := by
  obtain ⟨j, rfl⟩ : ∃ j, k = j + 1 := ⟨k - 1, by omega⟩
  simp only [Nat.add_sub_cancel] at *
  rw [take_succ_nth _ _ (by omega), topz_snoc _ _ h, List.length_take]
  omega
/-- A number without noughts on top. -/
def norm (xs : List Int) : List Int := xs.take (topz xs)
theorem length_norm (xs : List Int) : (norm xs).length = topz xs := by have := topz_le xs; simp [norm]; omega
theorem topz_zero {xs : List Int} (h : topz xs = 0) : ∀ x ∈ xs, x = 0 := by
  induction xs with
  | nil => simp
  | cons x xs ih =>
    simp only [topz] at h
    split at h
    · rename_i hh
      intro y hy
      rcases List.mem_cons.1 hy with rfl | hy
      · exact hh.2
      · exact ih hh.1 y hy
    · omega
theorem val_of_zero {xs : List Int} (h : ∀ x ∈ xs, x = 0) : val xs = 0 := by
  induction xs with
  | nil => rfl
  | cons x xs ih => rw [val, h x (by simp), ih fun y hy => h y (by simp [hy])]; rfl
theorem val_norm (xs : List Int) : val (norm xs) = val xs := by
  unfold norm
  induction xs with
  | nil => simp [topz]
  | cons x xs ih =>
    simp only [topz]
    split
    · rename_i hh
      rw [List.take_zero, val, val, hh.2, val_of_zero (topz_zero hh.1)]; rfl
    · rw [List.take_succ_cons, val, val, ih]
theorem U32.norm {xs : List Int} (h : U32 xs) : U32 (norm xs) := h.take (by omega) _

/-- No nought on top. -/
def Canon (xs : List Int) : Prop := topz xs = xs.length
theorem topz_take_topz (xs : List Int) : topz (xs.take (topz xs)) = topz xs := by
  induction xs with
  | nil => simp [topz]
  | cons x xs ih =>
    simp only [topz]
    split
    · simp [topz]
    · rename_i hh
      rw [List.take_succ_cons, topz, ih, if_neg hh]
theorem Canon.norm (xs : List Int) : Canon (norm xs) := by rw [Canon, length_norm]; exact topz_take_topz xs
theorem norm_of_canon {xs : List Int} (h : Canon xs) : Sg.norm xs = xs := by rw [Sg.norm, h, List.take_length]
theorem Canon.nil : Canon [] := rfl
theorem Canon.last {xs : List Int} (h : Canon xs) (hp : 0 < xs.length) : nth xs (xs.length - 1) ≠ 0 := by
  intro h0
  have e := topz_down xs xs.length hp (Nat.le_refl _) h0
  rw [List.take_length] at e
  have := topz_le (xs.take (xs.length - 1))
  rw [Canon, e] at h
  simp at this
  omega
theorem Canon.of_last {xs : List Int} (h : 0 < xs.length → nth xs (xs.length - 1) ≠ 0) : Canon xs := by
  by_cases hp : 0 < xs.length
  · have := topz_stop xs xs.length hp (Nat.le_refl _) (h hp)
    rwa [List.take_length] at this
  · obtain rfl : xs = [] := List.eq_nil_of_length_eq_zero (by omega)
    rfl
theorem Canon.ge {xs : List Int} (h : Canon xs) (hu : U32 xs) (hp : 0 < xs.length) : R ^ (xs.length - 1) ≤ val xs := by
  have h1 := h.last hp
  have h2 := hu (xs.length - 1)
  obtain ⟨n, hn⟩ : ∃ n, n = xs.length - 1 := ⟨_, rfl⟩
  have e := val_take_succ xs n (by omega)
  rw [show n + 1 = xs.length by omega, List.take_length] at e
  rw [← hn] at h1 h2 ⊢
  rw [e]
  have h3 : 1 ≤ lb xs n := by unfold lb; omega
  have := Nat.mul_le_mul_left (R ^ n) h3
  omega
theorem Canon.nil_of_zero {xs : List Int} (h : Canon xs) (hu : U32 xs) (h0 : val xs = 0) : xs = [] := by
  by_cases hp : 0 < xs.length
  · have := h.ge hu hp
    have := Rpow_pos (xs.length - 1)
    omega
  · exact List.eq_nil_of_length_eq_zero (by omega)
theorem Canon.len_lt {xs : List Int} (h : Canon xs) (hu : U32 xs) {n : Nat} (hv : val xs < R ^ n) : xs.length ≤ n := by
  by_cases hp : 0 < xs.length
  · have h1 := h.ge hu hp
    have h2 : R ^ (xs.length - 1) < R ^ n := by omega
    have := (Nat.pow_lt_pow_iff_right (a := R) (by decide)).1 h2
    omega
  · omega
theorem val_inj : ∀ {xs ys : List Int}, U32 xs → U32 ys → xs.length = ys.length → val xs = val ys → xs = ys
  | [], [], _, _, _, _ => rfl
  | [], _ :: _, _, _, h, _ => by simp at h
  | _ :: _, [], _, _, h, _ => by simp at h
  | x :: xs, y :: ys, hx, hy, hl, hv => by
    have hx1 : U32 xs := .of_mem (by omega) fun y hy => hx.mem y (by simp [hy])
    have hy1 : U32 ys := .of_mem (by omega) fun z hz => hy.mem z (by simp [hz])
    have hx2 := hx.mem x (by simp)
    have hy2 := hy.mem y (by simp)
    simp only [val, R] at hv
    have h1 : val xs = val ys := by omega
    have h2 : x = y := by omega
    rw [h2, val_inj hx1 hy1 (by simpa using hl) h1]
theorem Canon.ext {xs ys : List Int} (hx : Canon xs) (hy : Canon ys) (ux : U32 xs) (uy : U32 ys) (h : val xs = val ys) : xs = ys := by
  have h1 := hx.len_lt ux (n := ys.length) (by rw [h]; exact val_lt uy)
  have h2 := hy.len_lt uy (n := xs.length) (by rw [← h]; exact val_lt ux)
  exact val_inj ux uy (by omega) h

/-- How many bits. -/
def bl (n : Nat) : Nat := if n = 0 then 0 else Nat.log2 n + 1
theorem bl_zero : bl 0 = 0 := rfl
theorem lt_bl (n : Nat) : n < 2 ^ bl n := by
  unfold bl
  split
  · subst n; decide
  · exact Nat.lt_log2_self
theorem bl_le {n : Nat} (h : n ≠ 0) : 2 ^ (bl n - 1) ≤ n := by
  unfold bl
  rw [if_neg h, Nat.add_sub_cancel]
  exact Nat.log2_self_le h
theorem bl_pos {n : Nat} (h : n ≠ 0) : 0 < bl n := by unfold bl; rw [if_neg h]; omega
theorem bl_unique {n k : Nat} (h1 : 2 ^ k ≤ n) (h2 : n < 2 ^ (k + 1)) : bl n = k + 1 := by
  have h0 : n ≠ 0 := by have := Nat.two_pow_pos k; omega
  have h3 := lt_bl n
  have h4 := bl_le h0
  have h5 := bl_pos h0
  have a : k < bl n := by
    have : 2 ^ k < 2 ^ bl n := by omega
    exact (Nat.pow_lt_pow_iff_right (by decide)).1 this
  have b : bl n - 1 < k + 1 := by
    have : 2 ^ (bl n - 1) < 2 ^ (k + 1) := by omega
    exact (Nat.pow_lt_pow_iff_right (by decide)).1 this
  omega
theorem bl_le_iff (n k : Nat) : bl n ≤ k ↔ n < 2 ^ k := by
  constructor
  · intro h
    exact Nat.lt_of_lt_of_le (lt_bl n) (Nat.pow_le_pow_right (by decide) h)
  · intro h
    by_cases h0 : n = 0
    · subst h0; simp [bl]
    · have h4 := bl_le h0
      have : 2 ^ (bl n - 1) < 2 ^ k := by omega
      have := (Nat.pow_lt_pow_iff_right (a := 2) (by decide)).1 this
      omega
theorem bl_mul_pow (n k : Nat) (h : n ≠ 0) : bl (n * 2 ^ k) = bl n + k := by
  have h1 := bl_le h
  have h2 := lt_bl n
  have h3 := bl_pos h
  have e : bl n + k = (bl n - 1 + k) + 1 := by omega
  rw [e]
  apply bl_unique
  · rw [Nat.pow_add]; exact Nat.mul_le_mul_right _ h1
  · rw [show bl n - 1 + k + 1 = bl n + k by omega, Nat.pow_add]
    exact Nat.mul_lt_mul_of_lt_of_le h2 (Nat.le_refl _) (Nat.two_pow_pos k)
theorem bl_add_low (n k r : Nat) (h : n ≠ 0) (hr : r < 2 ^ k) : bl (r + 2 ^ k * n) = bl n + k := by
  have h1 := bl_le h
  have h2 := lt_bl n
  have h3 := bl_pos h
  have e : bl n + k = (bl n - 1 + k) + 1 := by omega
  rw [e]
  apply bl_unique
  · rw [Nat.pow_add, Nat.mul_comm (2 ^ (bl n - 1))]
    have := Nat.mul_le_mul_left (2 ^ k) h1
    omega
  · rw [show bl n - 1 + k + 1 = k + bl n by omega, Nat.pow_add]
    have : 2 ^ k * (n + 1) ≤ 2 ^ k * 2 ^ bl n := Nat.mul_le_mul_left _ h2
    rw [Nat.mul_add] at this
    omega
/-- Bits of a number out of its top limb. -/
theorem bl_val {xs : List Int} (hu : U32 xs) (h : Canon xs) (hp : 0 < xs.length) : bl (val xs) = 32 * (xs.length - 1) + bl (lb xs (xs.length - 1)) := by
  have h1 := h.last hp
  have h2 := hu (xs.length - 1)
  obtain ⟨n, hn⟩ : ∃ n, n = xs.length - 1 := ⟨_, rfl⟩
  have e := val_take_succ xs n (by omega)
  rw [show n + 1 = xs.length by omega, List.take_length] at e
  rw [← hn] at h1 h2 ⊢
  have h3 : lb xs n ≠ 0 := by unfold lb; omega
  have h4 := val_take_lt hu n (by omega)
  rw [e, Rpow_two]
  rw [Rpow_two] at h4
  rw [bl_add_low _ _ _ h3 h4]
  omega

/-- The number of bytes, the highest first. -/
def bval (xs : List Int) : Nat := xs.foldl (fun n x => n * 256 + x.toNat) 0
theorem bval_nil : bval [] = 0 := rfl
theorem bval_snoc (xs : List Int) (x : Int) : bval (xs ++ [x]) = bval xs * 256 + x.toNat := by simp [bval]
theorem bval_take_succ (xs : List Int) (k : Nat) (h : k < xs.length) : bval (xs.take (k + 1)) = bval (xs.take k) * 256 + lb xs k := by
  rw [take_succ_nth _ _ h, bval_snoc, lb]
theorem bval_foldl (xs : List Int) (n : Nat) : xs.foldl (fun n x => n * 256 + x.toNat) n = n * 256 ^ xs.length + bval xs := by
  induction xs generalizing n with
  | nil => simp [bval]
  | cons x xs ih =>
    have e : bval (x :: xs) = (0 * 256 + x.toNat) * 256 ^ xs.length + bval xs := by rw [bval, List.foldl_cons, ih]
    rw [List.foldl_cons, ih, e, List.length_cons, Nat.pow_succ', Nat.add_mul, ← Nat.mul_assoc, Nat.zero_mul, Nat.zero_add]
    omega
theorem bval_append (xs ys : List Int) : bval (xs ++ ys) = bval xs * 256 ^ ys.length + bval ys := by
  rw [bval, List.foldl_append, bval_foldl]; rfl
theorem bval_lt {xs : List Int} (h : U8 xs) : bval xs < 256 ^ xs.length := by
  suffices ∀ k, k ≤ xs.length → bval (xs.take k) < 256 ^ k by simpa using this xs.length (Nat.le_refl _)
  intro k
  induction k with
  | zero => intro _; simp [bval]
  | succ k ih =>
    intro hk
    have h1 := ih (by omega)
    have h2 := h k
    rw [bval_take_succ _ _ (by omega), Nat.pow_succ]
    have h3 : lb xs k < 256 := by unfold lb; omega
    have := Nat.mul_le_mul_right 256 h1
    omega

/-! ### bytes into limbs, as FromBytes fills them -/
theorem R_pow_256 (q : Nat) : R ^ q = 256 ^ (4 * q) := by rw [R, show (4294967296 : Nat) = 256 ^ 4 from rfl, ← Nat.pow_mul]
def FbInv (bs L : List Int) (i : Nat) : Prop := val L = bval (bs.take i) * 256 ^ (bs.length - i) ∧ ∀ j, 256 ^ (min 4 (bs.length - i - 4 * j)) ∣ lb L j
theorem FbInv.start (bs : List Int) (n : Nat) : FbInv bs (List.replicate n 0) 0 := by
  refine ⟨by rw [val_zeros]; simp [bval], fun j => ?_⟩
  rw [lb, nth_replicate0]; exact Nat.dvd_zero _
theorem FbInv.done {bs L : List Int} (h : FbInv bs L bs.length) : val L = bval bs := by have := h.1; simpa using this
theorem or_join {x c : Nat} {r : Nat} (hr : r < 4) (hx : x < 4294967296) (hd : 256 ^ (r + 1) ∣ x) (hc : c < 256) :
    bits .or .u32 (x : Int) ((c : Int) * 2 ^ (8 * r) % 4294967296) = ((x + c * 256 ^ r : Nat) : Int) ∧ x + c * 256 ^ r < 4294967296 := by
  have key : ∀ (m : Nat) (e : (2 : Int) ^ (8 * r) = (m : Int)) (em : 256 ^ r = m), c * m < 4294967296 → x + c * m < 4294967296 → x ||| c * m = x + c * m →
      bits .or .u32 (x : Int) ((c : Int) * 2 ^ (8 * r) % 4294967296) = ((x + c * 256 ^ r : Nat) : Int) ∧ x + c * 256 ^ r < 4294967296 := by
    intro m e em h1 h2 h3
    rw [e, em, ← Int.natCast_mul, show ((c * m : Nat) : Int) % 4294967296 = ((c * m : Nat) : Int) by omega, u32_or_nat _ _ hx h1, h3]
    exact ⟨rfl, h2⟩
  rcases (show r = 0 ∨ r = 1 ∨ r = 2 ∨ r = 3 by omega) with rfl | rfl | rfl | rfl
  · exact key 1 rfl rfl (by omega) (by omega) (nat_join 8 _ _ (by omega) (by omega))
  · exact key 256 rfl rfl (by omega) (by omega) (nat_join 16 _ _ (by omega) (by omega))
  · exact key 65536 rfl rfl (by omega) (by omega) (nat_join 24 _ _ (by omega) (by omega))
  · exact key 16777216 rfl rfl (by omega) (by omega) (nat_join 32 _ _ (by omega) (by omega))
theorem FbInv.step {bs L : List Int} {i : Nat} (h : FbInv bs L i) (ub : U8 bs) (uL : U32 L) (hi : i < bs.length) (at_ : Nat) (hat : at_ = bs.length - 1 - i) (hq : at_ / 4 < L.length) :
    ∃ y, bits .or .u32 (nth L (at_ / 4)) (nth bs i * 2 ^ (8 * (at_ % 4)) % 4294967296) = y ∧ 0 ≤ y ∧ y ≤ 4294967295 ∧ FbInv bs (L.set (at_ / 4) y) (i + 1) := by
  have hc := ub i
  have hx := lb_lt uL (at_ / 4)
  have hdv := h.2 (at_ / 4)
  rw [show min 4 (bs.length - i - 4 * (at_ / 4)) = at_ % 4 + 1 by omega] at hdv
  have hj := or_join (c := lb bs i) (show at_ % 4 < 4 by omega) hx hdv (by unfold lb; omega)
  rw [lb_cast uL, show ((lb bs i : Nat) : Int) = nth bs i by unfold lb; omega] at hj
  refine ⟨_, rfl, ?_, ?_, ?_, ?_⟩
  · rw [hj.1]; omega
  · rw [hj.1]; omega
  · have e1 := val_set L (at_ / 4) (bits .or .u32 (nth L (at_ / 4)) (nth bs i * 2 ^ (8 * (at_ % 4)) % 4294967296)) hq
    rw [hj.1, Int.toNat_natCast, Nat.mul_add] at e1
    rw [hj.1, bval_take_succ _ _ hi]
    have e2 := h.1
    rw [show bs.length - i = at_ + 1 by omega, Nat.pow_succ] at e2
    rw [show bs.length - (i + 1) = at_ by omega, Nat.add_mul]
    have e3 : R ^ (at_ / 4) * (lb bs i * 256 ^ (at_ % 4)) = lb bs i * 256 ^ at_ := by
      rw [R_pow_256, Nat.mul_comm, Nat.mul_assoc, ← Nat.pow_add, show at_ % 4 + 4 * (at_ / 4) = at_ by omega]
    rw [e3] at e1
    rw [Nat.mul_assoc (bval _), Nat.mul_comm 256, ← e2]
    omega
  · intro j
    rw [hj.1]
    by_cases e : at_ / 4 = j
    · subst e
      rw [lb, nth_set _ _ _ _ hq, if_pos rfl, Int.toNat_natCast, show min 4 (bs.length - (i + 1) - 4 * (at_ / 4)) = at_ % 4 by omega]
      exact Nat.dvd_add (Nat.dvd_trans (Nat.pow_dvd_pow 256 (by omega)) hdv) (Nat.dvd_mul_left _ _)
    · rw [lb, nth_set _ _ _ _ hq, if_neg e]
      exact Nat.dvd_trans (Nat.pow_dvd_pow 256 (by omega)) (h.2 j)
end Go.Sg
