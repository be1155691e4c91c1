/- Plain number theory: primes, Fermat's little theorem by binomial coefficients, Pocklington's criterion with a whole factoring. No program in sight. -/
set_option linter.unusedVariables false
set_option linter.unusedSimpArgs false
namespace Go.Sg
def Pr (p : Nat) : Prop := 1 < p ∧ ∀ m, m ∣ p → m = 1 ∨ m = p
theorem Pr.cop {p a : Nat} (hp : Pr p) (h : ¬ p ∣ a) : Nat.gcd p a = 1 := by
  rcases hp.2 _ (Nat.gcd_dvd_left p a) with h1 | h1
  · exact h1
  · exact absurd (h1 ▸ Nat.gcd_dvd_right p a) h
theorem Pr.of_mul {p a b : Nat} (hp : Pr p) (h : p ∣ a * b) : p ∣ a ∨ p ∣ b := by
  by_cases ha : p ∣ a
  · exact .inl ha
  · exact .inr (Nat.Coprime.dvd_of_dvd_mul_left (hp.cop ha) h)
theorem Pr.of_pow {p a : Nat} (hp : Pr p) : ∀ n, p ∣ a ^ n → p ∣ a
  | 0, h => by
    have := Nat.le_of_dvd (by simp) h
    have := hp.1
    simp at *
    omega
  | n + 1, h => by
    rw [Nat.pow_succ] at h
    exact (hp.of_mul h).elim (hp.of_pow n) id
theorem pr_in : ∀ (k n : Nat), n ≤ k → 1 < n → ∃ p, Pr p ∧ p ∣ n
  | 0, n, h, h1 => by omega
  | k + 1, n, h, h1 => by
    by_cases hp : Pr n
    · exact ⟨n, hp, Nat.dvd_refl n⟩
    · have : ∃ m, m ∣ n ∧ m ≠ 1 ∧ m ≠ n := by
        apply Classical.byContradiction
        intro hn
        refine hp ⟨h1, fun m hm => ?_⟩
        by_cases e1 : m = 1
        · exact .inl e1
        · by_cases e2 : m = n
          · exact .inr e2
          · exact absurd ⟨m, hm, e1, e2⟩ hn
      obtain ⟨m, hm, e1, e2⟩ := this
      have hle := Nat.le_of_dvd (by omega) hm
      have h0 : m ≠ 0 := by
        rintro rfl
        have := Nat.eq_zero_of_zero_dvd hm
        omega
      obtain ⟨p, hp, hd⟩ := pr_in k m (by omega) (by omega)
      exact ⟨p, hp, Nat.dvd_trans hd hm⟩

def bin : Nat → Nat → Nat
  | _, 0 => 1
  | 0, _ + 1 => 0
  | n + 1, k + 1 => bin n k + bin n (k + 1)
theorem bin_zero (n : Nat) : bin n 0 = 1 := by cases n <;> rfl
theorem bin_over : ∀ n k, n < k → bin n k = 0
  | _, 0, h => by omega
  | 0, k + 1, _ => rfl
  | n + 1, k + 1, h => by simp only [bin]; rw [bin_over n k (by omega), bin_over n (k + 1) (by omega)]
theorem bin_self : ∀ n, bin n n = 1
  | 0 => rfl
  | n + 1 => by simp only [bin]; rw [bin_self n, bin_over n (n + 1) (by omega)]
theorem bin_mul : ∀ n k, (k + 1) * bin (n + 1) (k + 1) = (n + 1) * bin n k
  | 0, 0 => rfl
  | 0, k + 1 => by simp [bin]
  | n + 1, 0 => by
    have h := bin_mul n 0
    simp only [bin, bin_zero] at h ⊢
    omega
  | n + 1, k + 1 => by
    have h1 := bin_mul n k
    have h2 := bin_mul n (k + 1)
    have e1 : bin (n + 2) (k + 2) = bin (n + 1) (k + 1) + bin (n + 1) (k + 2) := rfl
    have e2 : bin (n + 1) (k + 1) = bin n k + bin n (k + 1) := rfl
    rw [e1]
    grind
/-- The first m terms of (a + 1)^n. -/
def binS (a n : Nat) : Nat → Nat
  | 0 => 0
  | m + 1 => binS a n m + bin n m * a ^ m
theorem binS_step (a n : Nat) : ∀ m, binS a (n + 1) (m + 1) = a * binS a n m + binS a n (m + 1)
  | 0 => by simp [binS, bin_zero]
  | m + 1 => by
    have ih := binS_step a n m
    have e1 : binS a (n + 1) (m + 2) = binS a (n + 1) (m + 1) + (bin n m + bin n (m + 1)) * a ^ (m + 1) := rfl
    have e2 : binS a n (m + 2) = binS a n (m + 1) + bin n (m + 1) * a ^ (m + 1) := rfl
    have e3 : binS a n (m + 1) = binS a n m + bin n m * a ^ m := rfl
    rw [e1, ih, e2, e3, Nat.pow_succ]
    grind
theorem binS_all (a : Nat) : ∀ n, (a + 1) ^ n = binS a n (n + 1)
  | 0 => by simp [binS, bin]
  | n + 1 => by
    rw [binS_step, Nat.pow_succ, binS_all a n]
    have e : binS a n (n + 2) = binS a n (n + 1) + bin n (n + 1) * a ^ (n + 1) := rfl
    rw [e, bin_over n (n + 1) (by omega)]
    grind
theorem bin_dvd {p : Nat} (hp : Pr p) (k : Nat) (h0 : 0 < k) (h : k < p) : p ∣ bin p k := by
  obtain ⟨n, rfl⟩ : ∃ n, p = n + 1 := ⟨p - 1, by omega⟩
  obtain ⟨j, rfl⟩ : ∃ j, k = j + 1 := ⟨k - 1, by omega⟩
  have hm := bin_mul n j
  rcases hp.of_mul (a := j + 1) (b := bin (n + 1) (j + 1)) ⟨bin n j, hm⟩ with hd | hd
  · have := Nat.le_of_dvd (by omega) hd
    omega
  · exact hd
theorem binS_mod {p : Nat} (hp : Pr p) (a : Nat) : ∀ m, m < p → binS a p (m + 1) % p = 1
  | 0, _ => by simp [binS, bin_zero]; exact Nat.mod_eq_of_lt hp.1
  | m + 1, h => by
    have e : binS a p (m + 2) = binS a p (m + 1) + bin p (m + 1) * a ^ (m + 1) := rfl
    obtain ⟨c, hc⟩ := bin_dvd hp (m + 1) (by omega) h
    rw [e, hc, Nat.mul_assoc, Nat.add_mul_mod_self_left]
    exact binS_mod hp a m (by omega)
theorem fermat {p : Nat} (hp : Pr p) : ∀ a, a ^ p % p = a % p
  | 0 => by
    have := hp.1
    rw [Nat.zero_pow (by omega)]
  | a + 1 => by
    obtain ⟨n, hn⟩ : ∃ n, p = n + 1 := ⟨p - 1, by have := hp.1; omega⟩
    have e : binS a p (p + 1) = binS a p p + bin p p * a ^ p := rfl
    have h1 : binS a p p % p = 1 := by
      have := binS_mod hp a n (by omega)
      rw [← hn] at this
      exact this
    rw [binS_all, e, bin_self, Nat.one_mul, Nat.add_mod, h1, fermat hp a, Nat.add_mod a 1, Nat.mod_eq_of_lt hp.1, Nat.add_comm]
theorem fermat1 {p : Nat} (hp : Pr p) {a : Nat} (ha : ¬ p ∣ a) : a ^ (p - 1) % p = 1 := by
  have h := fermat hp a
  obtain ⟨n, rfl⟩ : ∃ n, p = n + 1 := ⟨p - 1, by have := hp.1; omega⟩
  rw [Nat.pow_succ] at h
  have hle : a ≤ a ^ n * a := Nat.le_mul_of_pos_left a (Nat.pos_of_ne_zero fun h0 => ha (hp.of_pow n (by rw [h0]; exact Nat.dvd_zero _)))
  have hd : (n + 1) ∣ a ^ n * a - a := by
    have h1 := Nat.div_add_mod (a ^ n * a) (n + 1)
    have h2 := Nat.div_add_mod a (n + 1)
    have h3 : a ^ n * a - a = (n + 1) * (a ^ n * a / (n + 1)) - (n + 1) * (a / (n + 1)) := by omega
    rw [h3, ← Nat.mul_sub]
    exact Nat.dvd_mul_right _ _
  have e : a ^ n * a - a = (a ^ n - 1) * a := by rw [Nat.sub_mul, Nat.one_mul]
  rw [e] at hd
  have hpos : 1 ≤ a ^ n := Nat.pos_of_ne_zero fun h0 => ha (hp.of_pow n (by rw [h0]; exact Nat.dvd_zero _))
  rcases hp.of_mul hd with h2 | h2
  · obtain ⟨c, hc⟩ := h2
    have : a ^ n = 1 + (n + 1) * c := by omega
    simp only [Nat.add_sub_cancel]
    rw [this, Nat.add_mul_mod_self_left, Nat.mod_eq_of_lt hp.1]
  · exact absurd h2 ha

theorem mod_of_dvd {r N x y : Nat} (h : r ∣ N) (e : x % N = y % N) : x % r = y % r := by
  rw [← Nat.mod_mod_of_dvd x h, e, Nat.mod_mod_of_dvd y h]
theorem pow_one_mod {r a m : Nat} (h : a ^ m % r = 1 % r) (k : Nat) : a ^ (m * k) % r = 1 % r := by
  rw [Nat.pow_mul, Nat.pow_mod, h, ← Nat.pow_mod, Nat.one_pow]
theorem pow_rest {r a m n : Nat} (h : a ^ m % r = 1 % r) (hn : a ^ n % r = 1 % r) : a ^ (n % m) % r = 1 % r := by
  have h1 := pow_one_mod h (n / m)
  have e : a ^ n = a ^ (m * (n / m)) * a ^ (n % m) := by rw [← Nat.pow_add, Nat.div_add_mod]
  rw [e, Nat.mul_mod, h1, ← Nat.mul_mod, Nat.one_mul] at hn
  exact hn
theorem pow_gcd {r a : Nat} (m n : Nat) : a ^ m % r = 1 % r → a ^ n % r = 1 % r → a ^ (Nat.gcd m n) % r = 1 % r := by
  induction m, n using Nat.gcd.induction with
  | H0 n => intro _ h; rw [Nat.gcd_zero_left]; exact h
  | H1 m n hm ih =>
    intro h1 h2
    rw [Nat.gcd_rec]
    exact ih (pow_rest h1 h2) h1
def lprod : List Nat → Nat
  | [] => 1
  | q :: r => q * lprod r
theorem pr_lprod {q : Nat} (hq : Pr q) : ∀ fs : List Nat, (∀ x ∈ fs, Pr x) → q ∣ lprod fs → q ∈ fs
  | [], _, h => by
    have := Nat.le_of_dvd (by simp [lprod]) h
    have := hq.1
    simp [lprod] at *
    omega
  | x :: r, hx, h => by
    rcases hq.of_mul h with h1 | h1
    · rcases (hx x (by simp)).2 q h1 with h2 | h2
      · have := hq.1; omega
      · simp [h2]
    · exact List.mem_cons_of_mem _ (pr_lprod hq r (fun y hy => hx y (List.mem_cons_of_mem _ hy)) h1)
theorem pock {N a : Nat} (fs : List Nat) (h1 : 1 < N) (hf : N - 1 = lprod fs) (hq : ∀ q ∈ fs, Pr q) (ha : a ^ (N - 1) % N = 1) (hg : ∀ q ∈ fs, Nat.gcd (a ^ ((N - 1) / q) % N + (N - 1)) N = 1) : Pr N := by
  obtain ⟨r, hr, hrN⟩ := pr_in N N (Nat.le_refl _) h1
  have hle := Nat.le_of_dvd (by omega) hrN
  have har : a ^ (N - 1) % r = 1 % r := mod_of_dvd hrN (by rw [ha, Nat.mod_eq_of_lt h1])
  have hra : ¬ r ∣ a := by
    intro hd
    have : r ∣ a ^ (N - 1) := by
      obtain ⟨n, hn⟩ : ∃ n, N - 1 = n + 1 := ⟨N - 2, by omega⟩
      rw [hn, Nat.pow_succ]
      exact Nat.dvd_trans hd (Nat.dvd_mul_left _ _)
    have := Nat.mod_eq_zero_of_dvd this
    rw [har, Nat.mod_eq_of_lt hr.1] at this
    omega
  have hfr : a ^ (r - 1) % r = 1 % r := by rw [fermat1 hr hra, Nat.mod_eq_of_lt hr.1]
  have hG := pow_gcd (N - 1) (r - 1) har hfr
  by_cases hgN : Nat.gcd (N - 1) (r - 1) = N - 1
  · have : Nat.gcd (N - 1) (r - 1) ≤ r - 1 := Nat.le_of_dvd (by have := hr.1; omega) (Nat.gcd_dvd_right _ _)
    have hrN' : r = N := by omega
    rw [← hrN']
    exact hr
  · exfalso
    obtain ⟨h, hh⟩ := Nat.gcd_dvd_left (N - 1) (r - 1)
    have hh1 : 1 < h := by
      rcases Nat.lt_or_ge 1 h with h2 | h2
      · exact h2
      · exfalso
        have : h = 0 ∨ h = 1 := by omega
        rcases this with rfl | rfl
        · omega
        · omega
    obtain ⟨q, hqp, hqh⟩ := pr_in h h (Nat.le_refl _) hh1
    have hmem : q ∈ fs := pr_lprod hqp fs hq (by rw [← hf, hh]; exact Nat.dvd_trans hqh (Nat.dvd_mul_left _ _))
    obtain ⟨c, rfl⟩ := hqh
    have e : (N - 1) / q = Nat.gcd (N - 1) (r - 1) * c := by
      have h3 : N - 1 = q * (Nat.gcd (N - 1) (r - 1) * c) := by rw [Nat.mul_left_comm]; exact hh
      rw [h3]
      rw [Nat.mul_div_cancel_left _ (by have := hqp.1; omega)]
      rw [← h3]
    have h4 : a ^ ((N - 1) / q) % r = 1 % r := by rw [e]; exact pow_one_mod hG c
    have h5 : r ∣ a ^ ((N - 1) / q) % N + (N - 1) := by
      apply Nat.dvd_of_mod_eq_zero
      have h6 : (a ^ ((N - 1) / q) % N) % r = 1 % r := by rw [Nat.mod_mod_of_dvd _ hrN]; exact h4
      rw [Nat.add_mod, h6, ← Nat.add_mod, show 1 + (N - 1) = N by omega]
      exact Nat.mod_eq_zero_of_dvd hrN
    have h7 := Nat.dvd_gcd h5 hrN
    rw [hg q hmem] at h7
    have := Nat.le_of_dvd (by omega) h7
    have := hr.1
    omega
/-- A power modulo m, so that the kernel can reckon it (n: more than the exponent's bits). -/
def pmg (a m : Nat) : Nat → Nat → Nat
  | 0, _ => 1 % m
  | n + 1, e => cond (Nat.beq (e % 2) 1) (pmg a m n (e / 2) * pmg a m n (e / 2) % m * a % m) (pmg a m n (e / 2) * pmg a m n (e / 2) % m)
theorem pmg_eq (a m : Nat) : ∀ n e, e < 2 ^ n → pmg a m n e = a ^ e % m
  | 0, e, h => by
    obtain rfl : e = 0 := by simpa using h
    simp [pmg]
  | n + 1, e, h => by
    have ih := pmg_eq a m n (e / 2) (by rw [Nat.pow_succ] at h; omega)
    have h2 : a ^ (e / 2) % m * (a ^ (e / 2) % m) % m = a ^ (2 * (e / 2)) % m := by rw [← Nat.mul_mod, ← Nat.pow_add]; congr 2; omega
    simp only [pmg, ih, h2]
    by_cases hb : e % 2 = 1
    · rw [hb]
      show a ^ (2 * (e / 2)) % m * a % m = _
      rw [Nat.mod_mul_mod, ← Nat.pow_succ]
      congr 2
      omega
    · have h0 : e % 2 = 0 := by omega
      rw [h0]
      show a ^ (2 * (e / 2)) % m = _
      congr 2
      omega
/-- No divisor from 2 to k. -/
def nodiv (n : Nat) : Nat → Bool
  | 0 => true
  | k + 1 => cond (Nat.beq (n % (k + 2)) 0) false (nodiv n k)
theorem nodiv_at (n : Nat) : ∀ k, nodiv n k = true → ∀ d, 2 ≤ d → d ≤ k + 1 → ¬ d ∣ n
  | 0, _, d, h1, h2 => by omega
  | k + 1, h, d, h1, h2 => by
    simp only [nodiv] at h
    by_cases hb : Nat.beq (n % (k + 2)) 0 = true
    · rw [hb] at h; cases h
    · have hb' : Nat.beq (n % (k + 2)) 0 = false := by cases hc : Nat.beq (n % (k + 2)) 0 <;> simp_all
      rw [hb'] at h
      by_cases hd : d = k + 2
      · subst hd
        intro hx
        rw [Nat.mod_eq_zero_of_dvd hx] at hb
        exact hb rfl
      · exact nodiv_at n k h d h1 (by omega)
theorem pr_small (n k : Nat) (h1 : 1 < n) (h : nodiv n k = true) (hk : n < (k + 2) * (k + 2)) : Pr n := by
  obtain ⟨r, hr, c, hc⟩ := pr_in n n (Nat.le_refl _) h1
  have hr1 := hr.1
  have hd := nodiv_at n k h
  have hrn : k + 1 < r := Nat.lt_of_not_ge fun hx => hd r hr1 hx ⟨c, hc⟩
  have hcn : c ≤ 1 := by
    apply Classical.byContradiction
    intro hx
    have : k + 1 < c := Nat.lt_of_not_ge fun hy => hd c (by omega) hy ⟨r, by rw [hc, Nat.mul_comm]⟩
    have := Nat.mul_le_mul (show k + 2 ≤ r by omega) (show k + 2 ≤ c by omega)
    omega
  have : c ≠ 0 := by rintro rfl; omega
  obtain rfl : c = 1 := by omega
  rw [Nat.mul_one] at hc
  rw [hc]
  exact hr
/-- The test of a factoring, for the kernel. -/
def pockB (N a : Nat) (fs : List Nat) (n : Nat) : Bool :=
  Nat.beq (N - 1) (lprod fs) && Nat.beq (pmg a N n (N - 1)) 1 && fs.all fun q => Nat.beq (Nat.gcd (pmg a N n ((N - 1) / q) + (N - 1)) N) 1
theorem pock_of (N a : Nat) (fs : List Nat) (n : Nat) (h1 : 1 < N) (hn : N < 2 ^ n) (h : pockB N a fs n = true) (hq : ∀ q ∈ fs, Pr q) : Pr N := by
  simp only [pockB, Bool.and_eq_true, Nat.beq_eq, List.all_eq_true] at h
  obtain ⟨⟨h2, h3⟩, h4⟩ := h
  rw [pmg_eq a N n _ (by omega)] at h3
  refine pock fs h1 h2 hq h3 fun q hm => ?_
  have := h4 q hm
  rw [pmg_eq a N n _ (Nat.lt_of_le_of_lt (Nat.div_le_self _ _) (by omega))] at this
  exact this
end Go.Sg
/- 2^255 - 19 and the order of the base point are primes. (Printed by gen_edprimes.py.) -/
namespace Go.Sg
theorem pr_2 : Pr 2 := pr_small 2 0 (by decide) (by decide +kernel) (by decide)
theorem pr_3 : Pr 3 := pr_small 3 0 (by decide) (by decide +kernel) (by decide)
theorem pr_65147 : Pr 65147 := pr_small 65147 254 (by decide) (by decide +kernel) (by decide)
theorem pr_353 : Pr 353 := pr_small 353 17 (by decide) (by decide +kernel) (by decide)
theorem pr_57467 : Pr 57467 := pr_small 57467 238 (by decide) (by decide +kernel) (by decide)
theorem pr_7 : Pr 7 := pr_small 7 1 (by decide) (by decide +kernel) (by decide)
theorem pr_131 : Pr 131 := pr_small 131 10 (by decide) (by decide +kernel) (by decide)
theorem pr_132049 : Pr 132049 := pock_of 132049 26 [2, 2, 2, 2, 3, 3, 7, 131] 18 (by decide +kernel) (by decide +kernel) (by decide +kernel) (fun q h => by
  simp only [List.mem_cons, List.not_mem_nil, or_false] at h
  rcases h with rfl | rfl | rfl | rfl | rfl | rfl | rfl | rfl
  · exact pr_2
  · exact pr_2
  · exact pr_2
  · exact pr_2
  · exact pr_3
  · exact pr_3
  · exact pr_7
  · exact pr_131)
theorem pr_43 : Pr 43 := pr_small 43 5 (by decide) (by decide +kernel) (by decide)
theorem pr_3727 : Pr 3727 := pr_small 3727 60 (by decide) (by decide +kernel) (by decide)
theorem pr_1923133 : Pr 1923133 := pock_of 1923133 2 [2, 2, 3, 43, 3727] 21 (by decide +kernel) (by decide +kernel) (by decide +kernel) (fun q h => by
  simp only [List.mem_cons, List.not_mem_nil, or_false] at h
  rcases h with rfl | rfl | rfl | rfl | rfl
  · exact pr_2
  · exact pr_2
  · exact pr_3
  · exact pr_43
  · exact pr_3727)
theorem pr_31 : Pr 31 := pr_small 31 4 (by decide) (by decide +kernel) (by decide)
theorem pr_107 : Pr 107 := pr_small 107 9 (by decide) (by decide +kernel) (by decide)
theorem pr_223 : Pr 223 := pr_small 223 13 (by decide) (by decide +kernel) (by decide)
theorem pr_4153 : Pr 4153 := pr_small 4153 63 (by decide) (by decide +kernel) (by decide)
theorem pr_5 : Pr 5 := pr_small 5 1 (by decide) (by decide +kernel) (by decide)
theorem pr_1723 : Pr 1723 := pr_small 1723 40 (by decide) (by decide +kernel) (by decide)
theorem pr_430751 : Pr 430751 := pock_of 430751 17 [2, 5, 5, 5, 1723] 19 (by decide +kernel) (by decide +kernel) (by decide +kernel) (fun q h => by
  simp only [List.mem_cons, List.not_mem_nil, or_false] at h
  rcases h with rfl | rfl | rfl | rfl | rfl
  · exact pr_2
  · exact pr_5
  · exact pr_5
  · exact pr_5
  · exact pr_1723)
theorem pr_31757755568855353 : Pr 31757755568855353 := pock_of 31757755568855353 10 [2, 2, 2, 3, 31, 107, 223, 4153, 430751] 55 (by decide +kernel) (by decide +kernel) (by decide +kernel) (fun q h => by
  simp only [List.mem_cons, List.not_mem_nil, or_false] at h
  rcases h with rfl | rfl | rfl | rfl | rfl | rfl | rfl | rfl | rfl
  · exact pr_2
  · exact pr_2
  · exact pr_2
  · exact pr_3
  · exact pr_31
  · exact pr_107
  · exact pr_223
  · exact pr_4153
  · exact pr_430751)
theorem pr_75707 : Pr 75707 := pr_small 75707 274 (by decide) (by decide +kernel) (by decide)
theorem pr_13 : Pr 13 := pr_small 13 2 (by decide) (by decide +kernel) (by decide)
theorem pr_2437 : Pr 2437 := pr_small 2437 48 (by decide) (by decide +kernel) (by decide)
theorem pr_97 : Pr 97 := pr_small 97 8 (by decide) (by decide +kernel) (by decide)
theorem pr_419 : Pr 419 := pr_small 419 19 (by decide) (by decide +kernel) (by decide)
theorem pr_569003 : Pr 569003 := pock_of 569003 2 [2, 7, 97, 419] 20 (by decide +kernel) (by decide +kernel) (by decide +kernel) (fun q h => by
  simp only [List.mem_cons, List.not_mem_nil, or_false] at h
  rcases h with rfl | rfl | rfl | rfl
  · exact pr_2
  · exact pr_7
  · exact pr_97
  · exact pr_419)
theorem pr_2773320623 : Pr 2773320623 := pock_of 2773320623 5 [2, 2437, 569003] 32 (by decide +kernel) (by decide +kernel) (by decide +kernel) (fun q h => by
  simp only [List.mem_cons, List.not_mem_nil, or_false] at h
  rcases h with rfl | rfl | rfl
  · exact pr_2
  · exact pr_2437
  · exact pr_569003)
theorem pr_72106336199 : Pr 72106336199 := pock_of 72106336199 7 [2, 13, 2773320623] 37 (by decide +kernel) (by decide +kernel) (by decide +kernel) (fun q h => by
  simp only [List.mem_cons, List.not_mem_nil, or_false] at h
  rcases h with rfl | rfl | rfl
  · exact pr_2
  · exact pr_13
  · exact pr_2773320623)
theorem pr_19 : Pr 19 := pr_small 19 3 (by decide) (by decide +kernel) (by decide)
theorem pr_47 : Pr 47 := pr_small 47 5 (by decide) (by decide +kernel) (by decide)
theorem pr_127 : Pr 127 := pr_small 127 10 (by decide) (by decide +kernel) (by decide)
theorem pr_103 : Pr 103 := pr_small 103 9 (by decide) (by decide +kernel) (by decide)
theorem pr_991 : Pr 991 := pr_small 991 30 (by decide) (by decide +kernel) (by decide)
theorem pr_8574133 : Pr 8574133 := pock_of 8574133 2 [2, 2, 3, 7, 103, 991] 24 (by decide +kernel) (by decide +kernel) (by decide +kernel) (fun q h => by
  simp only [List.mem_cons, List.not_mem_nil, or_false] at h
  rcases h with rfl | rfl | rfl | rfl | rfl | rfl
  · exact pr_2
  · exact pr_2
  · exact pr_3
  · exact pr_7
  · exact pr_103
  · exact pr_991)
theorem pr_1919519569386763 : Pr 1919519569386763 := pock_of 1919519569386763 2 [2, 3, 7, 19, 47, 47, 127, 8574133] 51 (by decide +kernel) (by decide +kernel) (by decide +kernel) (fun q h => by
  simp only [List.mem_cons, List.not_mem_nil, or_false] at h
  rcases h with rfl | rfl | rfl | rfl | rfl | rfl | rfl | rfl
  · exact pr_2
  · exact pr_3
  · exact pr_7
  · exact pr_19
  · exact pr_47
  · exact pr_47
  · exact pr_127
  · exact pr_8574133)
theorem pr_75445702479781427272750846543864801 : Pr 75445702479781427272750846543864801 := pock_of 75445702479781427272750846543864801 7 [2, 2, 2, 2, 2, 3, 3, 5, 5, 75707, 72106336199, 1919519569386763] 116 (by decide +kernel) (by decide +kernel) (by decide +kernel) (fun q h => by
  simp only [List.mem_cons, List.not_mem_nil, or_false] at h
  rcases h with rfl | rfl | rfl | rfl | rfl | rfl | rfl | rfl | rfl | rfl | rfl | rfl
  · exact pr_2
  · exact pr_2
  · exact pr_2
  · exact pr_2
  · exact pr_2
  · exact pr_3
  · exact pr_3
  · exact pr_5
  · exact pr_5
  · exact pr_75707
  · exact pr_72106336199
  · exact pr_1919519569386763)
theorem pr_74058212732561358302231226437062788676166966415465897661863160754340907 : Pr 74058212732561358302231226437062788676166966415465897661863160754340907 := pock_of 74058212732561358302231226437062788676166966415465897661863160754340907 2 [2, 3, 353, 57467, 132049, 1923133, 31757755568855353, 75445702479781427272750846543864801] 236 (by decide +kernel) (by decide +kernel) (by decide +kernel) (fun q h => by
  simp only [List.mem_cons, List.not_mem_nil, or_false] at h
  rcases h with rfl | rfl | rfl | rfl | rfl | rfl | rfl | rfl
  · exact pr_2
  · exact pr_3
  · exact pr_353
  · exact pr_57467
  · exact pr_132049
  · exact pr_1923133
  · exact pr_31757755568855353
  · exact pr_75445702479781427272750846543864801)
theorem pr_57896044618658097711785492504343953926634992332820282019728792003956564819949 : Pr 57896044618658097711785492504343953926634992332820282019728792003956564819949 := pock_of 57896044618658097711785492504343953926634992332820282019728792003956564819949 2 [2, 2, 3, 65147, 74058212732561358302231226437062788676166966415465897661863160754340907] 255 (by decide +kernel) (by decide +kernel) (by decide +kernel) (fun q h => by
  simp only [List.mem_cons, List.not_mem_nil, or_false] at h
  rcases h with rfl | rfl | rfl | rfl | rfl
  · exact pr_2
  · exact pr_2
  · exact pr_3
  · exact pr_65147
  · exact pr_74058212732561358302231226437062788676166966415465897661863160754340907)
theorem pr_11 : Pr 11 := pr_small 11 2 (by decide) (by decide +kernel) (by decide)
theorem pr_23 : Pr 23 := pr_small 23 3 (by decide) (by decide +kernel) (by decide)
theorem pr_34123 : Pr 34123 := pr_small 34123 183 (by decide) (by decide +kernel) (by decide)
theorem pr_409477 : Pr 409477 := pock_of 409477 2 [2, 2, 3, 34123] 19 (by decide +kernel) (by decide +kernel) (by decide +kernel) (fun q h => by
  simp only [List.mem_cons, List.not_mem_nil, or_false] at h
  rcases h with rfl | rfl | rfl | rfl
  · exact pr_2
  · exact pr_2
  · exact pr_3
  · exact pr_34123)
theorem pr_14741173 : Pr 14741173 := pock_of 14741173 2 [2, 2, 3, 3, 409477] 24 (by decide +kernel) (by decide +kernel) (by decide +kernel) (fun q h => by
  simp only [List.mem_cons, List.not_mem_nil, or_false] at h
  rcases h with rfl | rfl | rfl | rfl | rfl
  · exact pr_2
  · exact pr_2
  · exact pr_3
  · exact pr_3
  · exact pr_409477)
theorem pr_58964693 : Pr 58964693 := pock_of 58964693 2 [2, 2, 14741173] 26 (by decide +kernel) (by decide +kernel) (by decide +kernel) (fun q h => by
  simp only [List.mem_cons, List.not_mem_nil, or_false] at h
  rcases h with rfl | rfl | rfl
  · exact pr_2
  · exact pr_2
  · exact pr_14741173)
theorem pr_30703 : Pr 30703 := pr_small 30703 174 (by decide) (by decide +kernel) (by decide)
theorem pr_82163 : Pr 82163 := pr_small 82163 285 (by decide) (by decide +kernel) (by decide)
theorem pr_22111 : Pr 22111 := pr_small 22111 147 (by decide) (by decide +kernel) (by decide)
theorem pr_132667 : Pr 132667 := pock_of 132667 5 [2, 3, 22111] 18 (by decide +kernel) (by decide +kernel) (by decide +kernel) (fun q h => by
  simp only [List.mem_cons, List.not_mem_nil, or_false] at h
  rcases h with rfl | rfl | rfl
  · exact pr_2
  · exact pr_3
  · exact pr_22111)
theorem pr_17231 : Pr 17231 := pr_small 17231 130 (by decide) (by decide +kernel) (by decide)
theorem pr_137849 : Pr 137849 := pock_of 137849 3 [2, 2, 2, 17231] 18 (by decide +kernel) (by decide +kernel) (by decide +kernel) (fun q h => by
  simp only [List.mem_cons, List.not_mem_nil, or_false] at h
  rcases h with rfl | rfl | rfl | rfl
  · exact pr_2
  · exact pr_2
  · exact pr_2
  · exact pr_17231)
theorem pr_3044861653679985063343 : Pr 3044861653679985063343 := pock_of 3044861653679985063343 5 [2, 3, 11, 30703, 82163, 132667, 137849] 72 (by decide +kernel) (by decide +kernel) (by decide +kernel) (fun q h => by
  simp only [List.mem_cons, List.not_mem_nil, or_false] at h
  rcases h with rfl | rfl | rfl | rfl | rfl | rfl | rfl
  · exact pr_2
  · exact pr_3
  · exact pr_11
  · exact pr_30703
  · exact pr_82163
  · exact pr_132667
  · exact pr_137849)
theorem pr_198211423230930754013084525763697 : Pr 198211423230930754013084525763697 := pock_of 198211423230930754013084525763697 5 [2, 2, 2, 2, 3, 23, 58964693, 3044861653679985063343] 108 (by decide +kernel) (by decide +kernel) (by decide +kernel) (fun q h => by
  simp only [List.mem_cons, List.not_mem_nil, or_false] at h
  rcases h with rfl | rfl | rfl | rfl | rfl | rfl | rfl | rfl
  · exact pr_2
  · exact pr_2
  · exact pr_2
  · exact pr_2
  · exact pr_3
  · exact pr_23
  · exact pr_58964693
  · exact pr_3044861653679985063343)
theorem pr_269 : Pr 269 := pr_small 269 15 (by decide) (by decide +kernel) (by decide)
theorem pr_73 : Pr 73 := pr_small 73 7 (by decide) (by decide +kernel) (by decide)
theorem pr_307 : Pr 307 := pr_small 307 16 (by decide) (by decide +kernel) (by decide)
theorem pr_5879 : Pr 5879 := pr_small 5879 75 (by decide) (by decide +kernel) (by decide)
theorem pr_292386187 : Pr 292386187 := pock_of 292386187 2 [2, 3, 3, 3, 3, 307, 5879] 29 (by decide +kernel) (by decide +kernel) (by decide +kernel) (fun q h => by
  simp only [List.mem_cons, List.not_mem_nil, or_false] at h
  rcases h with rfl | rfl | rfl | rfl | rfl | rfl | rfl
  · exact pr_2
  · exact pr_3
  · exact pr_3
  · exact pr_3
  · exact pr_3
  · exact pr_307
  · exact pr_5879)
theorem pr_213441916511 : Pr 213441916511 := pock_of 213441916511 13 [2, 5, 73, 292386187] 38 (by decide +kernel) (by decide +kernel) (by decide +kernel) (fun q h => by
  simp only [List.mem_cons, List.not_mem_nil, or_false] at h
  rcases h with rfl | rfl | rfl | rfl
  · exact pr_2
  · exact pr_5
  · exact pr_73
  · exact pr_292386187)
theorem pr_1361 : Pr 1361 := pr_small 1361 35 (by decide) (by decide +kernel) (by decide)
theorem pr_2851 : Pr 2851 := pr_small 2851 52 (by decide) (by decide +kernel) (by decide)
theorem pr_41 : Pr 41 := pr_small 41 5 (by decide) (by decide +kernel) (by decide)
theorem pr_3797 : Pr 3797 := pr_small 3797 60 (by decide) (by decide +kernel) (by decide)
theorem pr_531581 : Pr 531581 := pock_of 531581 2 [2, 2, 5, 7, 3797] 20 (by decide +kernel) (by decide +kernel) (by decide +kernel) (fun q h => by
  simp only [List.mem_cons, List.not_mem_nil, or_false] at h
  rcases h with rfl | rfl | rfl | rfl | rfl
  · exact pr_2
  · exact pr_2
  · exact pr_5
  · exact pr_7
  · exact pr_3797)
theorem pr_2551 : Pr 2551 := pr_small 2551 49 (by decide) (by decide +kernel) (by decide)
theorem pr_1224481 : Pr 1224481 := pock_of 1224481 13 [2, 2, 2, 2, 2, 3, 5, 2551] 21 (by decide +kernel) (by decide +kernel) (by decide +kernel) (fun q h => by
  simp only [List.mem_cons, List.not_mem_nil, or_false] at h
  rcases h with rfl | rfl | rfl | rfl | rfl | rfl | rfl | rfl
  · exact pr_2
  · exact pr_2
  · exact pr_2
  · exact pr_2
  · exact pr_2
  · exact pr_3
  · exact pr_5
  · exact pr_2551)
theorem pr_1257559732178653 : Pr 1257559732178653 := pock_of 1257559732178653 2 [2, 2, 3, 7, 23, 531581, 1224481] 51 (by decide +kernel) (by decide +kernel) (by decide +kernel) (fun q h => by
  simp only [List.mem_cons, List.not_mem_nil, or_false] at h
  rcases h with rfl | rfl | rfl | rfl | rfl | rfl | rfl
  · exact pr_2
  · exact pr_2
  · exact pr_3
  · exact pr_7
  · exact pr_23
  · exact pr_531581
  · exact pr_1224481)
theorem pr_4434155615661930479 : Pr 4434155615661930479 := pock_of 4434155615661930479 17 [2, 41, 43, 1257559732178653] 62 (by decide +kernel) (by decide +kernel) (by decide +kernel) (fun q h => by
  simp only [List.mem_cons, List.not_mem_nil, or_false] at h
  rcases h with rfl | rfl | rfl | rfl
  · exact pr_2
  · exact pr_41
  · exact pr_43
  · exact pr_1257559732178653)
theorem pr_172054593956031949258510691 : Pr 172054593956031949258510691 := pock_of 172054593956031949258510691 2 [2, 5, 1361, 2851, 4434155615661930479] 88 (by decide +kernel) (by decide +kernel) (by decide +kernel) (fun q h => by
  simp only [List.mem_cons, List.not_mem_nil, or_false] at h
  rcases h with rfl | rfl | rfl | rfl | rfl
  · exact pr_2
  · exact pr_5
  · exact pr_1361
  · exact pr_2851
  · exact pr_4434155615661930479)
theorem pr_19757330305831588566944191468367130476339 : Pr 19757330305831588566944191468367130476339 := pock_of 19757330305831588566944191468367130476339 2 [2, 269, 213441916511, 172054593956031949258510691] 134 (by decide +kernel) (by decide +kernel) (by decide +kernel) (fun q h => by
  simp only [List.mem_cons, List.not_mem_nil, or_false] at h
  rcases h with rfl | rfl | rfl | rfl
  · exact pr_2
  · exact pr_269
  · exact pr_213441916511
  · exact pr_172054593956031949258510691)
theorem pr_276602624281642239937218680557139826668747 : Pr 276602624281642239937218680557139826668747 := pock_of 276602624281642239937218680557139826668747 2 [2, 7, 19757330305831588566944191468367130476339] 138 (by decide +kernel) (by decide +kernel) (by decide +kernel) (fun q h => by
  simp only [List.mem_cons, List.not_mem_nil, or_false] at h
  rcases h with rfl | rfl | rfl
  · exact pr_2
  · exact pr_7
  · exact pr_19757330305831588566944191468367130476339)
theorem pr_7237005577332262213973186563042994240857116359379907606001950938285454250989 : Pr 7237005577332262213973186563042994240857116359379907606001950938285454250989 := pock_of 7237005577332262213973186563042994240857116359379907606001950938285454250989 2 [2, 2, 3, 11, 198211423230930754013084525763697, 276602624281642239937218680557139826668747] 253 (by decide +kernel) (by decide +kernel) (by decide +kernel) (fun q h => by
  simp only [List.mem_cons, List.not_mem_nil, or_false] at h
  rcases h with rfl | rfl | rfl | rfl | rfl | rfl
  · exact pr_2
  · exact pr_2
  · exact pr_3
  · exact pr_11
  · exact pr_198211423230930754013084525763697
  · exact pr_276602624281642239937218680557139826668747)
/-- The prime of the curve's numbers; the order of the base point. -/
def eP : Nat := 57896044618658097711785492504343953926634992332820282019728792003956564819949
def eL : Nat := 7237005577332262213973186563042994240857116359379907606001950938285454250989
theorem pr_eP : Pr eP := pr_57896044618658097711785492504343953926634992332820282019728792003956564819949
theorem pr_eL : Pr eL := pr_7237005577332262213973186563042994240857116359379907606001950938285454250989
end Go.Sg
/- The numbers modulo 2^255 - 19 as a field; the curve's sum; it is whole, closed, commutative and associative. No program in sight. -/
set_option linter.unusedVariables false
set_option linter.unusedSimpArgs false
namespace Go.Sg
instance eP_ne : NeZero eP := ⟨by decide⟩
abbrev Fp := Fin eP
theorem fp_ext {a b : Fp} (h : a.val = b.val) : a = b := Fin.ext h
theorem fp_zero : (0 : Fp).val = 0 := by decide +kernel
theorem fp_one : (1 : Fp).val = 1 := by decide +kernel
theorem fp_mul (a b : Fp) : (a * b).val = a.val * b.val % eP := by rw [Fin.val_mul]
theorem fp_add (a b : Fp) : (a + b).val = (a.val + b.val) % eP := by rw [Fin.val_add]
theorem fp_sub (a b : Fp) : (a - b).val = (eP - b.val + a.val) % eP := by rw [Fin.sub_def]
theorem fp_dvd {a : Fp} (h : eP ∣ a.val) : a = 0 := fp_ext (by
  rw [fp_zero]
  exact Nat.eq_zero_of_dvd_of_lt h a.isLt)
theorem fp_no0 {a b : Fp} (h : a * b = 0) : a = 0 ∨ b = 0 := by
  have h1 : a.val * b.val % eP = 0 := by rw [← fp_mul, h]; exact fp_zero
  exact (pr_eP.of_mul (Nat.dvd_of_mod_eq_zero h1)).imp fp_dvd fp_dvd
def fpow (a : Fp) (k : Nat) : Fp := ⟨a.val ^ k % eP, Nat.mod_lt _ (by decide)⟩
theorem fpow_pmg (a : Fp) (n k : Nat) (h : k < 2 ^ n) : (fpow a k).val = pmg a.val eP n k := (pmg_eq _ _ _ _ h).symm
theorem fpow_zero (a : Fp) : fpow a 0 = 1 := fp_ext (by rw [fp_one]; simp only [fpow, Nat.pow_zero]; decide +kernel)
theorem fpow_succ (a : Fp) (k : Nat) : fpow a (k + 1) = fpow a k * a := fp_ext (by rw [fp_mul]; simp only [fpow]; rw [Nat.pow_succ, Nat.mod_mul_mod])
theorem fpow_add (a : Fp) (m : Nat) : ∀ n, fpow a (m + n) = fpow a m * fpow a n
  | 0 => by rw [fpow_zero]; show fpow a m = _; grind
  | n + 1 => by rw [← Nat.add_assoc, fpow_succ, fpow_add a m n, fpow_succ]; grind
theorem fpow_mul (a b : Fp) : ∀ n, fpow (a * b) n = fpow a n * fpow b n
  | 0 => by simp only [fpow_zero]; grind
  | n + 1 => by simp only [fpow_succ, fpow_mul a b n]; grind
theorem fpow_pow (a : Fp) (m : Nat) : ∀ n, fpow a (m * n) = fpow (fpow a m) n
  | 0 => by simp only [Nat.mul_zero, fpow_zero]
  | n + 1 => by rw [Nat.mul_succ, fpow_add, fpow_pow a m n, fpow_succ]
theorem fpow_one (a : Fp) : fpow a 1 = a := by rw [fpow_succ, fpow_zero]; grind
theorem fpow_fer {a : Fp} (h : a ≠ 0) : fpow a (eP - 1) = 1 := fp_ext (by
  rw [fp_one]
  exact fermat1 pr_eP (fun hd => h (fp_dvd hd)))
/-- The inverse (of 0: 0). -/
def finv (a : Fp) : Fp := fpow a (eP - 2)
theorem finv_mul {a : Fp} (h : a ≠ 0) : a * finv a = 1 := by
  have e : fpow a (eP - 1) = finv a * a := by
    rw [show eP - 1 = (eP - 2) + 1 by decide +kernel, fpow_succ]
    rfl
  rw [fpow_fer h] at e
  grind
theorem finv_zero : finv 0 = 0 := by
  unfold finv
  rw [show eP - 2 = (eP - 3) + 1 by decide +kernel, fpow_succ]
  grind
theorem fp_cancel {a b c : Fp} (h : c ≠ 0) (e : c * a = c * b) : a = b := by
  have := finv_mul h
  grind
/-- The curve's number d; a root of - 1. -/
def eD : Fp := ⟨37095705934669439343138083508754565189542113879843219016388785533085940283555, by decide⟩
def eI : Fp := ⟨38214883241950591754978413199355411911188925816896391856984770930832735035197, by decide⟩
theorem eI_sq : eI * eI = -1 := by decide +kernel
theorem one_ne : (1 : Fp) ≠ 0 := by decide +kernel
theorem two_ne : (1 : Fp) + 1 ≠ 0 := by decide +kernel
theorem one_neg : (1 : Fp) ≠ -1 := by decide +kernel
theorem eD_euler : fpow eD ((eP - 1) / 2) = -1 := fp_ext ((fpow_pmg eD 256 _ (by decide +kernel)).trans (by decide +kernel))
theorem eD_inv : eD * finv eD = 1 := finv_mul (by decide +kernel)
/-- d is no square. -/
theorem eD_nosq {u v : Fp} (h : u * u = eD * (v * v)) : v = 0 := by
  by_cases hv : v = 0
  · exact hv
  exfalso
  have hi := finv_mul hv
  have h1 : (u * finv v) * (u * finv v) = eD := by grind
  have h2 : fpow (u * finv v) (eP - 1) = -1 := by
    have e : eP - 1 = 2 * ((eP - 1) / 2) := by decide +kernel
    rw [e, fpow_pow]
    have e2 : fpow (u * finv v) 2 = eD := by rw [fpow_succ, fpow_one, h1]
    rw [e2, eD_euler]
  by_cases hz : u * finv v = 0
  · rw [hz] at h1
    have : eD = 0 := by grind
    exact absurd this (by decide +kernel)
  · rw [fpow_fer hz] at h2
    exact one_neg h2
/-- - d is no square. -/
theorem eDn_nosq {u v : Fp} (h : u * u = -(eD * (v * v))) : v = 0 := by
  have h1 : u * u = eD * ((eI * v) * (eI * v)) := by have := eI_sq; grind
  have h2 := eD_nosq h1
  rcases fp_no0 h2 with h3 | h3
  · exact absurd h3 (by decide +kernel)
  · exact h3
/-- On the curve. -/
def OnC (P : Fp × Fp) : Prop := P.2 * P.2 - P.1 * P.1 = 1 + eD * ((P.1 * P.1) * (P.2 * P.2))
instance (P : Fp × Fp) : Decidable (OnC P) := by unfold OnC; infer_instance
/-- The denominators are never 0. -/
theorem whole {x1 y1 x2 y2 s : Fp} (h1 : OnC (x1, y1)) (h2 : OnC (x2, y2)) (hs : s * s = 1) : eD * (x1 * x2 * (y1 * y2)) ≠ s := by
  intro h
  simp only [OnC] at h1 h2
  have hi := eI_sq
  have hs0 : s ≠ 0 := by
    intro h0
    rw [h0] at hs
    exact one_ne (by grind)
  have a1 : (eI * x1 + s * y1) * (eI * x1 + s * y1) = -(eD * ((eI * x1 * y1 * (eI * x2 + y2)) * (eI * x1 * y1 * (eI * x2 + y2)))) := by grind
  have a2 : (eI * x1 - s * y1) * (eI * x1 - s * y1) = -(eD * ((eI * x1 * y1 * (eI * x2 - y2)) * (eI * x1 * y1 * (eI * x2 - y2)))) := by grind
  have hx1 : x1 ≠ 0 := by rintro rfl; exact hs0 (by grind)
  have hy1 : y1 ≠ 0 := by rintro rfl; exact hs0 (by grind)
  have hx2 : x2 ≠ 0 := by rintro rfl; exact hs0 (by grind)
  have hI : eI ≠ 0 := by decide +kernel
  have n : eI * x1 * y1 ≠ 0 := fun h0 => (fp_no0 h0).elim (fun h3 => (fp_no0 h3).elim hI hx1) hy1
  have b1 := (fp_no0 (eDn_nosq a1)).resolve_left n
  have b2 := (fp_no0 (eDn_nosq a2)).resolve_left n
  have b3 : (1 + 1) * (eI * x2) = 0 := by grind
  exact (fp_no0 b3).elim two_ne fun h3 => (fp_no0 h3).elim hI hx2
theorem whole_p {P Q : Fp × Fp} (h1 : OnC P) (h2 : OnC Q) : 1 + eD * (P.1 * Q.1 * (P.2 * Q.2)) ≠ 0 := by
  intro h
  exact whole (s := -1) h1 h2 (by grind) (by grind)
theorem whole_m {P Q : Fp × Fp} (h1 : OnC P) (h2 : OnC Q) : 1 - eD * (P.1 * Q.1 * (P.2 * Q.2)) ≠ 0 := by
  intro h
  exact whole (s := 1) h1 h2 (by grind) (by grind)
/-- The sum of two points. -/
def eAdd (P Q : Fp × Fp) : Fp × Fp := ((P.1 * Q.2 + Q.1 * P.2) * finv (1 + eD * (P.1 * Q.1 * (P.2 * Q.2))), (P.2 * Q.2 + P.1 * Q.1) * finv (1 - eD * (P.1 * Q.1 * (P.2 * Q.2))))
def eO : Fp × Fp := (0, 1)
def eNeg (P : Fp × Fp) : Fp × Fp := (-P.1, P.2)
/-- What the sum is, without quotients. -/
theorem eAdd_is {P Q : Fp × Fp} (h1 : OnC P) (h2 : OnC Q) : (1 + eD * (P.1 * Q.1 * (P.2 * Q.2))) * (eAdd P Q).1 = P.1 * Q.2 + Q.1 * P.2 ∧ (1 - eD * (P.1 * Q.1 * (P.2 * Q.2))) * (eAdd P Q).2 = P.2 * Q.2 + P.1 * Q.1 := by
  have a := finv_mul (whole_p h1 h2)
  have b := finv_mul (whole_m h1 h2)
  simp only [eAdd]
  constructor <;> grind
theorem eAdd_of {P Q R : Fp × Fp} (h1 : OnC P) (h2 : OnC Q) (hx : (1 + eD * (P.1 * Q.1 * (P.2 * Q.2))) * R.1 = P.1 * Q.2 + Q.1 * P.2) (hy : (1 - eD * (P.1 * Q.1 * (P.2 * Q.2))) * R.2 = P.2 * Q.2 + P.1 * Q.1) : eAdd P Q = R := by
  obtain ⟨ax, ay⟩ := eAdd_is h1 h2
  exact Prod.ext (fp_cancel (whole_p h1 h2) (by rw [ax, hx])) (fp_cancel (whole_m h1 h2) (by rw [ay, hy]))
theorem onE {x y : Fp} (h : OnC (x, y)) : x ^ 2 * y ^ 2 = finv eD * (y ^ 2 - x ^ 2 - 1) := by
  have := eD_inv
  simp only [OnC] at h
  grind
theorem onsum (x1 y1 x2 y2 d e : Fp) (hd : d * e = 1) (h1 : x1 ^ 2 * y1 ^ 2 = e * (y1 ^ 2 - x1 ^ 2 - 1)) (h2 : x2 ^ 2 * y2 ^ 2 = e * (y2 ^ 2 - x2 ^ 2 - 1)) :
    (y1 * y2 + x1 * x2) ^ 2 * (1 + d * (x1 * x2 * (y1 * y2))) ^ 2 - (x1 * y2 + x2 * y1) ^ 2 * (1 - d * (x1 * x2 * (y1 * y2))) ^ 2 = (1 + d * (x1 * x2 * (y1 * y2))) ^ 2 * (1 - d * (x1 * x2 * (y1 * y2))) ^ 2 + d * (x1 * y2 + x2 * y1) ^ 2 * (y1 * y2 + x1 * x2) ^ 2 := by grind
theorem sq_ne {b c : Fp} (hb : b ≠ 0) (hc : c ≠ 0) : b ^ 2 * c ^ 2 ≠ 0 := by
  intro h
  have : (b * c) * (b * c) = 0 := by grind
  exact (fp_no0 this).elim (fun h => (fp_no0 h).elim hb hc) fun h => (fp_no0 h).elim hb hc
theorem eAdd_on {P Q : Fp × Fp} (h1 : OnC P) (h2 : OnC Q) : OnC (eAdd P Q) := by
  obtain ⟨ax, ay⟩ := eAdd_is h1 h2
  have wp := whole_p h1 h2
  have wm := whole_m h1 h2
  generalize eAdd P Q = R at *
  obtain ⟨x1, y1⟩ := P
  obtain ⟨x2, y2⟩ := Q
  obtain ⟨x3, y3⟩ := R
  have k := onsum x1 y1 x2 y2 eD (finv eD) eD_inv (onE h1) (onE h2)
  simp only [OnC] at *
  generalize hB : 1 + eD * (x1 * x2 * (y1 * y2)) = B at *
  generalize hC : 1 - eD * (x1 * x2 * (y1 * y2)) = C at *
  rw [← ax, ← ay] at k
  refine fp_cancel (sq_ne wp wm) ?_
  clear hB hC ax ay h1 h2
  grind
theorem eAdd_comm (P Q : Fp × Fp) : eAdd P Q = eAdd Q P := by
  simp only [eAdd]
  have e : eD * (P.1 * Q.1 * (P.2 * Q.2)) = eD * (Q.1 * P.1 * (Q.2 * P.2)) := by grind
  rw [e]
  exact Prod.ext (by show _ * _ = _ * _; congr 1; grind) (by show _ * _ = _ * _; congr 1; grind)
theorem assx (x1 y1 x2 y2 x3 y3 d e : Fp) (hd : d * e = 1) (h1 : x1 ^ 2 * y1 ^ 2 = e * (y1 ^ 2 - x1 ^ 2 - 1)) (h2 : x2 ^ 2 * y2 ^ 2 = e * (y2 ^ 2 - x2 ^ 2 - 1)) (h3 : x3 ^ 2 * y3 ^ 2 = e * (y3 ^ 2 - x3 ^ 2 - 1)) :
    ((x1 * y2 + x2 * y1) * (1 - d * (x1 * x2 * (y1 * y2))) * y3 + (y1 * y2 + x1 * x2) * (1 + d * (x1 * x2 * (y1 * y2))) * x3) * ((1 + d * (x2 * x3 * (y2 * y3))) * (1 - d * (x2 * x3 * (y2 * y3))) + d * (x1 * y1 * ((x2 * y3 + x3 * y2) * (y2 * y3 + x2 * x3)))) = (x1 * (y2 * y3 + x2 * x3) * (1 + d * (x2 * x3 * (y2 * y3))) + y1 * (x2 * y3 + x3 * y2) * (1 - d * (x2 * x3 * (y2 * y3)))) * ((1 + d * (x1 * x2 * (y1 * y2))) * (1 - d * (x1 * x2 * (y1 * y2))) + d * ((x1 * y2 + x2 * y1) * (y1 * y2 + x1 * x2) * (x3 * y3))) := by grind
theorem assy (x1 y1 x2 y2 x3 y3 d e : Fp) (hd : d * e = 1) (h1 : x1 ^ 2 * y1 ^ 2 = e * (y1 ^ 2 - x1 ^ 2 - 1)) (h2 : x2 ^ 2 * y2 ^ 2 = e * (y2 ^ 2 - x2 ^ 2 - 1)) (h3 : x3 ^ 2 * y3 ^ 2 = e * (y3 ^ 2 - x3 ^ 2 - 1)) :
    ((y1 * y2 + x1 * x2) * (1 + d * (x1 * x2 * (y1 * y2))) * y3 + (x1 * y2 + x2 * y1) * (1 - d * (x1 * x2 * (y1 * y2))) * x3) * ((1 + d * (x2 * x3 * (y2 * y3))) * (1 - d * (x2 * x3 * (y2 * y3))) - d * (x1 * y1 * ((x2 * y3 + x3 * y2) * (y2 * y3 + x2 * x3)))) = (y1 * (y2 * y3 + x2 * x3) * (1 + d * (x2 * x3 * (y2 * y3))) + x1 * (x2 * y3 + x3 * y2) * (1 - d * (x2 * x3 * (y2 * y3)))) * ((1 + d * (x1 * x2 * (y1 * y2))) * (1 - d * (x1 * x2 * (y1 * y2))) - d * ((x1 * y2 + x2 * y1) * (y1 * y2 + x1 * x2) * (x3 * y3))) := by grind
theorem cross {a b n m k l : Fp} (hn : n ≠ 0) (hm : m ≠ 0) (ha : n * a = k) (hb : m * b = l) (h : k * m = l * n) : a = b := by
  have hnm : n * m ≠ 0 := fun h0 => (fp_no0 h0).elim hn hm
  exact fp_cancel hnm (by grind)
theorem eAdd_assoc {P Q R : Fp × Fp} (h1 : OnC P) (h2 : OnC Q) (h3 : OnC R) : eAdd (eAdd P Q) R = eAdd P (eAdd Q R) := by
  have o1 := eAdd_on h1 h2
  have o2 := eAdd_on h2 h3
  obtain ⟨ax, ay⟩ := eAdd_is h1 h2
  obtain ⟨bx, bY⟩ := eAdd_is h2 h3
  obtain ⟨cx, cy⟩ := eAdd_is o1 h3
  obtain ⟨dx, dy⟩ := eAdd_is h1 o2
  have w1 := whole_p h1 h2
  have w2 := whole_m h1 h2
  have w3 := whole_p h2 h3
  have w4 := whole_m h2 h3
  have w5 := whole_p o1 h3
  have w6 := whole_m o1 h3
  have w7 := whole_p h1 o2
  have w8 := whole_m h1 o2
  generalize eAdd (eAdd P Q) R = S at *
  generalize eAdd P (eAdd Q R) = T at *
  generalize eAdd P Q = U at *
  generalize eAdd Q R = V at *
  obtain ⟨x1, y1⟩ := P
  obtain ⟨x2, y2⟩ := Q
  obtain ⟨x3, y3⟩ := R
  obtain ⟨u, v⟩ := U
  obtain ⟨r, t⟩ := V
  obtain ⟨s1, s2⟩ := S
  obtain ⟨t1, t2⟩ := T
  have kx := assx x1 y1 x2 y2 x3 y3 eD (finv eD) eD_inv (onE h1) (onE h2) (onE h3)
  have ky := assy x1 y1 x2 y2 x3 y3 eD (finv eD) eD_inv (onE h1) (onE h2) (onE h3)
  simp only at *
  rw [← ax, ← ay, ← bx, ← bY] at *
  generalize 1 + eD * (x1 * x2 * (y1 * y2)) = B at *
  generalize 1 - eD * (x1 * x2 * (y1 * y2)) = D at *
  generalize 1 + eD * (x2 * x3 * (y2 * y3)) = E at *
  generalize 1 - eD * (x2 * x3 * (y2 * y3)) = F at *
  have hBD : B * D * (E * F) ≠ 0 := fun h0 => (fp_no0 h0).elim (fun h => (fp_no0 h).elim w1 w2) fun h => (fp_no0 h).elim w3 w4
  refine Prod.ext (cross w5 w7 cx dx (fp_cancel hBD ?_)) (cross w6 w8 cy dy (fp_cancel hBD ?_))
  · clear ky cx cy dx dy ax ay bx bY h1 h2 h3 o1 o2
    grind
  · clear kx cx cy dx dy ax ay bx bY h1 h2 h3 o1 o2
    grind
end Go.Sg
/- Multiples of points; points as X/Z, Y/Z; the order of the base point; roots. No program in sight. -/
set_option linter.unusedVariables false
set_option linter.unusedSimpArgs false
namespace Go.Sg
abbrev Pt := Fp × Fp
theorem eO_on : OnC eO := by decide +kernel
theorem eAdd_zero {P : Pt} (h : OnC P) : eAdd P eO = P := eAdd_of h eO_on (by simp only [eO]; grind) (by simp only [eO]; grind)
theorem eAdd_zero' {P : Pt} (h : OnC P) : eAdd eO P = P := by rw [eAdd_comm]; exact eAdd_zero h
theorem eNeg_on {P : Pt} (h : OnC P) : OnC (eNeg P) := by simp only [OnC, eNeg] at *; grind
theorem eAdd_neg {P : Pt} (h : OnC P) : eAdd P (eNeg P) = eO := by
  refine eAdd_of h (eNeg_on h) ?_ ?_
  · simp only [eNeg, eO]; grind
  · obtain ⟨x, y⟩ := P
    simp only [eNeg, eO, OnC] at *
    grind
/-- n times a point. -/
def eMul : Nat → Pt → Pt
  | 0, _ => eO
  | n + 1, P => eAdd (eMul n P) P
theorem eMul_on {P : Pt} (h : OnC P) : ∀ n, OnC (eMul n P)
  | 0 => eO_on
  | n + 1 => eAdd_on (eMul_on h n) h
theorem eMul_one {P : Pt} (h : OnC P) : eMul 1 P = P := eAdd_zero' h
theorem eMul_add {P : Pt} (h : OnC P) (m : Nat) : ∀ n, eMul (m + n) P = eAdd (eMul m P) (eMul n P)
  | 0 => (eAdd_zero (eMul_on h m)).symm
  | n + 1 => by
    show eAdd (eMul (m + n) P) P = eAdd _ (eAdd _ _)
    rw [eMul_add h m n, eAdd_assoc (eMul_on h m) (eMul_on h n) h]
theorem eMul_O : ∀ n, eMul n eO = eO
  | 0 => rfl
  | n + 1 => by show eAdd _ _ = _; rw [eMul_O n]; exact eAdd_zero eO_on
theorem eMul_mul {P : Pt} (h : OnC P) (m : Nat) : ∀ n, eMul (m * n) P = eMul n (eMul m P)
  | 0 => rfl
  | n + 1 => by rw [Nat.mul_succ, eMul_add h, eMul_mul h m n]; rfl
theorem eMul_two {P : Pt} (h : OnC P) : eMul 2 P = eAdd P P := by show eAdd (eMul 1 P) P = _; rw [eMul_one h]
theorem eMul_dist {P Q : Pt} (h : OnC P) (hq : OnC Q) : ∀ n, eMul n (eAdd P Q) = eAdd (eMul n P) (eMul n Q)
  | 0 => (eAdd_zero eO_on).symm
  | n + 1 => by
    have a := eMul_on h n
    have b := eMul_on hq n
    show eAdd _ (eAdd P Q) = eAdd (eAdd _ _) (eAdd _ _)
    rw [eMul_dist h hq n, eAdd_assoc a b (eAdd_on h hq), ← eAdd_assoc b h hq, eAdd_comm (eMul n Q) P, eAdd_assoc h b hq, ← eAdd_assoc a h (eAdd_on b hq)]
theorem eAdd_left {P Q R : Pt} (h : OnC P) (h1 : OnC Q) (h2 : OnC R) (e : eAdd P Q = eAdd P R) : Q = R := by
  have n := eNeg_on h
  have k : eAdd (eNeg P) (eAdd P Q) = eAdd (eNeg P) (eAdd P R) := by rw [e]
  rw [← eAdd_assoc n h h1, ← eAdd_assoc n h h2, eAdd_comm (eNeg P) P, eAdd_neg h, eAdd_zero' h1, eAdd_zero' h2] at k
  exact k
/-- X, Y, Z, T stand for a point. -/
structure Sp where
  x : Fp
  y : Fp
  z : Fp
  t : Fp
deriving DecidableEq
def Sp.is (s : Sp) (P : Pt) : Prop := s.z ≠ 0 ∧ s.x = P.1 * s.z ∧ s.y = P.2 * s.z ∧ s.t = P.1 * P.2 * s.z
def Sp.of (P : Pt) : Sp := ⟨P.1, P.2, 1, P.1 * P.2⟩
def Sp.pt (s : Sp) : Pt := (s.x * finv s.z, s.y * finv s.z)
def Sp.plus (s q : Sp) : Sp :=
  let a := (s.y - s.x) * (q.y - q.x)
  let b := (s.y + s.x) * (q.y + q.x)
  let c := s.t * q.t * (eD + eD)
  let d := s.z * (q.z + q.z)
  ⟨(b - a) * (d - c), (d + c) * (b + a), (d - c) * (d + c), (b - a) * (b + a)⟩
def Sp.twice (s : Sp) : Sp :=
  let a := s.x * s.x
  let b := s.y * s.y
  let c := s.z * (s.z + s.z)
  let h := a + b
  let e := h - (s.x + s.y) * (s.x + s.y)
  let g := a - b
  let f := c + g
  ⟨e * f, g * h, f * g, e * h⟩
theorem Sp.of_is (P : Pt) : (Sp.of P).is P := ⟨one_ne, by simp only [Sp.of]; grind, by simp only [Sp.of]; grind, by simp only [Sp.of]; grind⟩
theorem Sp.pt_is {s : Sp} {P : Pt} (h : s.is P) : s.pt = P := by
  obtain ⟨hz, hx, hy, _⟩ := h
  have i := finv_mul hz
  exact Prod.ext (by show s.x * finv s.z = _; rw [hx]; grind) (by show s.y * finv s.z = _; rw [hy]; grind)
theorem four_ne : (1 + 1) * (1 + 1) ≠ (0 : Fp) := by decide +kernel
theorem Sp.plus_is {s q : Sp} {P Q : Pt} (h : s.is P) (hq : q.is Q) (h1 : OnC P) (h2 : OnC Q) : (s.plus q).is (eAdd P Q) := by
  obtain ⟨hz, hx, hy, ht⟩ := h
  obtain ⟨kz, kx, ky, kt⟩ := hq
  obtain ⟨ax, ay⟩ := eAdd_is h1 h2
  have w1 := whole_p h1 h2
  have w2 := whole_m h1 h2
  generalize eAdd P Q = R at *
  obtain ⟨x1, y1⟩ := P
  obtain ⟨x2, y2⟩ := Q
  obtain ⟨u, v⟩ := R
  obtain ⟨sx, sy, sz, st⟩ := s
  obtain ⟨qx, qy, qz, qt⟩ := q
  simp only at hx hy ht kx ky kt hz kz ax ay w1 w2
  subst hx hy ht kx ky kt
  have e1 : (y1 * sz + x1 * sz) * (y2 * qz + x2 * qz) - (y1 * sz - x1 * sz) * (y2 * qz - x2 * qz) = (1 + 1) * (sz * qz) * (x1 * y2 + x2 * y1) := by grind
  have e2 : (y1 * sz + x1 * sz) * (y2 * qz + x2 * qz) + (y1 * sz - x1 * sz) * (y2 * qz - x2 * qz) = (1 + 1) * (sz * qz) * (y1 * y2 + x1 * x2) := by grind
  have e3 : sz * (qz + qz) - x1 * y1 * sz * (x2 * y2 * qz) * (eD + eD) = (1 + 1) * (sz * qz) * (1 - eD * (x1 * x2 * (y1 * y2))) := by grind
  have e4 : sz * (qz + qz) + x1 * y1 * sz * (x2 * y2 * qz) * (eD + eD) = (1 + 1) * (sz * qz) * (1 + eD * (x1 * x2 * (y1 * y2))) := by grind
  have hk : (1 + 1) * (sz * qz) ≠ 0 := fun h0 => (fp_no0 h0).elim two_ne fun h => (fp_no0 h).elim hz kz
  simp only [Sp.is, Sp.plus]
  rw [e1, e2, e3, e4, ← ax, ← ay]
  generalize (1 + 1) * (sz * qz) = k at *
  generalize 1 + eD * (x1 * x2 * (y1 * y2)) = B at *
  generalize 1 - eD * (x1 * x2 * (y1 * y2)) = D at *
  clear e1 e2 e3 e4 ax ay
  refine ⟨fun h0 => (fp_no0 h0).elim (fun h => (fp_no0 h).elim hk w2) fun h => (fp_no0 h).elim hk w1, ?_, ?_, ?_⟩ <;> grind
theorem Sp.twice_is {s : Sp} {P : Pt} (h : s.is P) (h1 : OnC P) : s.twice.is (eAdd P P) := by
  obtain ⟨hz, hx, hy, ht⟩ := h
  obtain ⟨ax, ay⟩ := eAdd_is h1 h1
  have w1 := whole_p h1 h1
  have w2 := whole_m h1 h1
  generalize eAdd P P = R at *
  obtain ⟨x1, y1⟩ := P
  obtain ⟨u, v⟩ := R
  obtain ⟨sx, sy, sz, st⟩ := s
  simp only [OnC] at hx hy ht hz ax ay w1 w2 h1
  subst hx hy ht
  have e1 : x1 * sz * (x1 * sz) + y1 * sz * (y1 * sz) = sz * sz * (y1 * y1 + x1 * x1) := by grind
  have e2 : x1 * sz * (x1 * sz) - y1 * sz * (y1 * sz) = -(sz * sz * (1 + eD * (x1 * x1 * (y1 * y1)))) := by grind
  have e3 : sz * sz * (y1 * y1 + x1 * x1) - (x1 * sz + y1 * sz) * (x1 * sz + y1 * sz) = -(sz * sz * (x1 * y1 + x1 * y1)) := by grind
  have e4 : sz * (sz + sz) + -(sz * sz * (1 + eD * (x1 * x1 * (y1 * y1)))) = sz * sz * (1 - eD * (x1 * x1 * (y1 * y1))) := by grind
  have hk : sz * sz ≠ 0 := fun h0 => (fp_no0 h0).elim hz hz
  simp only [Sp.is, Sp.twice]
  rw [e2, e1, e3, e4, ← ax, ← ay]
  generalize sz * sz = k at *
  generalize 1 + eD * (x1 * x1 * (y1 * y1)) = B at *
  generalize 1 - eD * (x1 * x1 * (y1 * y1)) = D at *
  clear e1 e2 e3 e4 ax ay
  refine ⟨fun h0 => (fp_no0 h0).elim (fun h => (fp_no0 h).elim hk w2) fun h => ?_, ?_, ?_, ?_⟩
  · have : k * B = 0 := by grind
    exact (fp_no0 this).elim hk w1
  · grind
  · grind
  · grind
end Go.Sg
/- The base point and its order; the x of a y. No program in sight. -/
set_option linter.unusedVariables false
set_option linter.unusedSimpArgs false
namespace Go.Sg
theorem fin_z1 {n : Nat} [NeZero n] (d : Fin n) : d * (0 * 0) + 1 = 1 := by grind
theorem fp_00 : (0 : Fp) - 0 = 0 := by decide +kernel
def Sp.none : Sp := ⟨0, 1, 1, 0⟩
theorem Sp.none_is : Sp.none.is eO := ⟨one_ne, by decide +kernel, by decide +kernel, by decide +kernel⟩
/-- k times a point, so that the kernel can reckon it (n: as many bits at least). -/
def spg (s : Sp) : Nat → Nat → Sp
  | 0, _ => Sp.none
  | n + 1, k => cond (Nat.beq (k % 2) 1) ((spg s n (k / 2)).twice.plus s) (spg s n (k / 2)).twice
theorem eMul_twice {P : Pt} (h : OnC P) (n : Nat) : eAdd (eMul n P) (eMul n P) = eMul (2 * n) P := by rw [Nat.two_mul, eMul_add h]
theorem spg_is {s : Sp} {P : Pt} (h : s.is P) (hP : OnC P) : ∀ n k, k < 2 ^ n → (spg s n k).is (eMul k P)
  | 0, k, hk => by
    obtain rfl : k = 0 := by simpa using hk
    exact Sp.none_is
  | n + 1, k, hk => by
    have ih := spg_is h hP n (k / 2) (by rw [Nat.pow_succ] at hk; omega)
    have ht := Sp.twice_is ih (eMul_on hP _)
    rw [eMul_twice hP] at ht
    simp only [spg]
    by_cases hb : k % 2 = 1
    · rw [hb]
      have := Sp.plus_is ht h (eMul_on hP _) hP
      have e : eAdd (eMul (2 * (k / 2)) P) P = eMul k P := by
        show eMul (2 * (k / 2) + 1) P = _
        congr 1; omega
      rw [e] at this
      exact this
    · rw [show k % 2 = 0 by omega]
      rw [show 2 * (k / 2) = k by omega] at ht
      exact ht
def eB : Pt := (⟨15112221349535400772501151409588531511454012693041857206046113283949847762202, by decide⟩, ⟨46316835694926478169428394003475163141307993866256225615783033603165251855960, by decide⟩)
theorem eB_on : OnC eB := by decide +kernel
def Sp.same0 (s : Sp) : Bool := decide (s.x = 0) && decide (s.y = s.z)
theorem Sp.same0_is {s : Sp} {P : Pt} (h : s.is P) (e : s.same0 = true) : P = eO := by
  obtain ⟨hz, hx, hy, _⟩ := h
  simp only [Sp.same0, Bool.and_eq_true, decide_eq_true_eq] at e
  refine Prod.ext ?_ ?_
  · have : P.1 * s.z = 0 := by rw [← hx]; exact e.1
    exact (fp_no0 this).resolve_right hz
  · refine fp_cancel hz ?_
    show s.z * P.2 = s.z * 1
    have := e.2
    grind
theorem eL_B : eMul eL eB = eO := Sp.same0_is (spg_is (Sp.of_is eB) eB_on 253 eL (by decide +kernel)) (by decide +kernel)
theorem eMul_gcd {P : Pt} (h : OnC P) (m n : Nat) : eMul m P = eO → eMul n P = eO → eMul (Nat.gcd m n) P = eO := by
  induction m, n using Nat.gcd.induction with
  | H0 n => intro _ h; rw [Nat.gcd_zero_left]; exact h
  | H1 m n hm ih =>
    intro h1 h2
    rw [Nat.gcd_rec]
    refine ih ?_ h1
    have e : eMul n P = eAdd (eMul (m * (n / m)) P) (eMul (n % m) P) := by rw [← eMul_add h, Nat.div_add_mod]
    rw [h2, eMul_mul h, h1, eMul_O, eAdd_zero' (eMul_on h _)] at e
    exact e.symm
theorem eMul_mod (k : Nat) : eMul (k % eL) eB = eMul k eB := by
  have e : eMul k eB = eAdd (eMul (eL * (k / eL)) eB) (eMul (k % eL) eB) := by rw [← eMul_add eB_on, Nat.div_add_mod]
  rw [eMul_mul eB_on, eL_B, eMul_O, eAdd_zero' (eMul_on eB_on _)] at e
  exact e.symm
theorem eB_no : eB ≠ eO := by decide +kernel
theorem eMul_inj1 {s t : Nat} (hst : s ≤ t) (ht : t < eL) (e : eMul s eB = eMul t eB) : s = t := by
  have h1 : eMul t eB = eAdd (eMul s eB) (eMul (t - s) eB) := by rw [← eMul_add eB_on]; congr 1; omega
  have h2 : eMul (t - s) eB = eO := by
    refine eAdd_left (eMul_on eB_on s) (eMul_on eB_on _) eO_on ?_
    rw [← h1, eAdd_zero (eMul_on eB_on s), e]
  apply Classical.byContradiction
  intro hne
  have h3 := eMul_gcd eB_on eL (t - s) eL_B h2
  rw [pr_eL.cop (fun hd => by have := Nat.le_of_dvd (by omega) hd; omega), eMul_one eB_on] at h3
  exact eB_no h3
theorem eMul_inj {s t : Nat} (hs : s < eL) (ht : t < eL) (e : eMul s eB = eMul t eB) : s = t := by
  rcases Nat.le_total s t with h | h
  · exact eMul_inj1 h ht e
  · exact (eMul_inj1 h hs e.symm).symm
theorem eNeg_O : eNeg eO = eO := by decide +kernel
theorem eMul_neg {P : Pt} (h : OnC P) (k : Nat) : eAdd (eMul k P) (eMul k (eNeg P)) = eO := by rw [← eMul_dist h (eNeg_on h), eAdd_neg h, eMul_O]
/-- Odd? -/
def eOdd (x : Fp) : Bool := x.val % 2 == 1
theorem eOdd_neg {x : Fp} (h : x ≠ 0) : eOdd (0 - x) = !eOdd x := by
  have h0 : x.val ≠ 0 := fun h0 => h (fp_ext (by rw [h0, fp_zero]))
  have hl := x.isLt
  have e : (0 - x).val = eP - x.val := by
    rw [fp_sub, fp_zero, Nat.add_zero, Nat.mod_eq_of_lt (by omega)]
  have hp : eP % 2 = 1 := by decide +kernel
  unfold eOdd
  rw [e]
  have : (eP - x.val) % 2 = 1 - x.val % 2 := by omega
  rw [this]
  rcases Nat.mod_two_eq_zero_or_one x.val with h2 | h2 <;> rw [h2] <;> rfl
/-- The square of the x of a y; a root of it, if it is a square. -/
def eXX (y : Fp) : Fp := (y * y - 1) * finv (eD * (y * y) + 1)
def eR0 (y : Fp) : Fp := fpow (eXX y) ((eP + 3) / 8)
def eR1 (y : Fp) : Fp := if eR0 y * eR0 y = eXX y then eR0 y else eR0 y * eI
/-- The x of a y, odd or even. -/
def eRoot (y : Fp) (odd : Bool) : Option Fp :=
  if eR1 y * eR1 y ≠ eXX y ∨ (eR1 y = 0 ∧ odd = true) then none else some (if eOdd (eR1 y) = odd then eR1 y else 0 - eR1 y)
theorem eDy_ne (y : Fp) : eD * (y * y) + 1 ≠ 0 := by
  intro h
  have h1 : (1 : Fp) * 1 = -(eD * (y * y)) := by grind
  have hy := eDn_nosq h1
  rw [hy] at h
  have e : eD * (0 * 0) + 1 = (1 : Fp) := fin_z1 eD
  exact one_ne (e.symm.trans h)
theorem eXX_is (y : Fp) : (eD * (y * y) + 1) * eXX y = y * y - 1 := by
  have := finv_mul (eDy_ne y)
  unfold eXX
  grind
theorem on_XX {x y : Fp} : OnC (x, y) ↔ x * x = eXX y := by
  have h := eXX_is y
  constructor
  · intro hc
    refine fp_cancel (eDy_ne y) ?_
    simp only [OnC] at hc
    grind
  · intro hc
    simp only [OnC]
    rw [← hc] at h
    grind
theorem eRoot_on {y : Fp} {odd : Bool} {x : Fp} (h : eRoot y odd = some x) : OnC (x, y) ∧ eOdd x = odd := by
  unfold eRoot at h
  split at h
  · cases h
  · rename_i hn
    have h1 : eR1 y * eR1 y = eXX y := Classical.byContradiction fun h1 => hn (.inl h1)
    have h2 : eR1 y = 0 → odd = false := fun h0 => by cases odd; rfl; exact absurd (.inr ⟨h0, rfl⟩) hn
    have e := Option.some.inj h
    generalize eR1 y = r at *
    by_cases hp : eOdd r = odd
    · rw [if_pos hp] at e
      subst e
      exact ⟨on_XX.2 h1, hp⟩
    · rw [if_neg hp] at e
      subst e
      refine ⟨on_XX.2 (by rw [← h1]; grind), ?_⟩
      by_cases h0 : r = 0
      · have := h2 h0
        rw [this, h0] at hp
        exact absurd (by decide +kernel) hp
      · rw [eOdd_neg h0]
        cases hq : eOdd r <;> cases odd <;> simp_all
theorem eR0_sq {x y : Fp} (h : x * x = eXX y) : eR0 y * eR0 y = eXX y ∨ eR0 y * eR0 y = -eXX y := by
  have e1 : eR0 y = fpow x ((eP + 3) / 4) := by
    unfold eR0
    rw [← h]
    have : x * x = fpow x 2 := by rw [fpow_succ, fpow_one]
    rw [this, ← fpow_pow]
    rw [show 2 * ((eP + 3) / 8) = (eP + 3) / 4 by decide +kernel]
  have e2 : eR0 y * eR0 y = fpow x ((eP - 1) / 2) * (x * x) := by
    rw [e1, ← fpow_add]
    have : x * x = fpow x 2 := by rw [fpow_succ, fpow_one]
    rw [this, ← fpow_add]
    rw [show (eP + 3) / 4 + (eP + 3) / 4 = (eP - 1) / 2 + 2 by decide +kernel]
  by_cases h0 : x = 0
  · left
    rw [e2, ← h, h0]
    grind
  · have h1 : fpow x ((eP - 1) / 2) * fpow x ((eP - 1) / 2) = 1 := by
      rw [← fpow_add, show (eP - 1) / 2 + (eP - 1) / 2 = eP - 1 by decide +kernel]
      exact fpow_fer h0
    generalize fpow x ((eP - 1) / 2) = w at *
    have h2 : (w - 1) * (w + 1) = 0 := by grind
    rcases fp_no0 h2 with h3 | h3
    · left; rw [e2, ← h]; grind
    · right; rw [e2, ← h]; grind
theorem eRoot_of {x y : Fp} (h : OnC (x, y)) : eRoot y (eOdd x) = some x := by
  have hx := on_XX.1 h
  have hr : eR1 y * eR1 y = eXX y := by
    unfold eR1
    split
    · assumption
    · rename_i hn
      have := (eR0_sq hx).resolve_left hn
      have := eI_sq
      grind
  have hxr : (x - eR1 y) * (x + eR1 y) = 0 := by grind
  unfold eRoot
  generalize eR1 y = r at *
  have hc : x = r ∨ x = 0 - r := (fp_no0 hxr).imp (fun h => by grind) (fun h => by grind)
  rw [if_neg (by
    rintro (h1 | ⟨h1, h2⟩)
    · exact h1 hr
    · have : x = 0 := by rcases hc with h | h <;> (rw [h, h1]; try exact fp_00)
      rw [this] at h2
      exact absurd h2 (by decide +kernel))]
  congr 1
  by_cases hz : r = 0
  · have : x = 0 := by rcases hc with h | h <;> (rw [h, hz]; try exact fp_00)
    rw [this, hz, if_pos rfl]
  · rcases hc with h1 | h1
    · rw [h1, if_pos rfl]
    · rw [h1, eOdd_neg hz, if_neg (by cases eOdd r <;> simp)]
end Go.Sg
