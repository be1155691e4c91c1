/- Numbers modulo m: sums, halves, powers, and what Euclid and the halving keep. No program in sight. -/
import Derived.Test.YtnlmkikaaifcmaaLimN
import Derived.Test.YtnlmkikaaifcmaaNumD
set_option linter.unusedVariables false
set_option linter.unusedSimpArgs false
namespace Go.Sg
/-- a and b differ by a multiple of m. -/
def Cg (m : Nat) (a b : Int) : Prop := ∃ k : Int, a - b = k * (m : Int)
theorem Cg.refl (m : Nat) (a : Int) : Cg m a a := ⟨0, by omega⟩
theorem Cg.symm {m : Nat} {a b : Int} (h : Cg m a b) : Cg m b a := by obtain ⟨k, h⟩ := h; exact ⟨-k, by grind⟩
theorem Cg.trans {m : Nat} {a b c : Int} (h : Cg m a b) (h' : Cg m b c) : Cg m a c := by obtain ⟨k, h⟩ := h; obtain ⟨l, h'⟩ := h'; exact ⟨k + l, by grind⟩
theorem Cg.add {m : Nat} {a b c d : Int} (h : Cg m a b) (h' : Cg m c d) : Cg m (a + c) (b + d) := by obtain ⟨k, h⟩ := h; obtain ⟨l, h'⟩ := h'; exact ⟨k + l, by grind⟩
theorem Cg.sub {m : Nat} {a b c d : Int} (h : Cg m a b) (h' : Cg m c d) : Cg m (a - c) (b - d) := by obtain ⟨k, h⟩ := h; obtain ⟨l, h'⟩ := h'; exact ⟨k - l, by grind⟩
theorem Cg.mul {m : Nat} {a b c d : Int} (h : Cg m a b) (h' : Cg m c d) : Cg m (a * c) (b * d) := by obtain ⟨k, h⟩ := h; obtain ⟨l, h'⟩ := h'; exact ⟨k * c + b * l, by grind⟩
theorem Cg.mod (m n : Nat) : Cg m ((n % m : Nat) : Int) n := by
  refine ⟨-((n / m : Nat) : Int), ?_⟩
  have h := Nat.div_add_mod n m
  have h2 : ((m * (n / m) + n % m : Nat) : Int) = n := by rw [h]
  rw [Int.natCast_add, Int.natCast_mul] at h2
  grind
theorem Cg.self (m : Nat) : Cg m m 0 := ⟨1, by grind⟩
theorem Cg.eq {m a b : Nat} (h : Cg m a b) : a % m = b % m := by
  obtain ⟨k, h⟩ := h
  have : (a : Int) % m = (b : Int) % m := by
    have e : (a : Int) = b + k * m := by omega
    rw [e, Int.add_mul_emod_self_right]
  omega
theorem Cg.of_eq {m a b : Nat} (h : a % m = b % m) : Cg m a b := ((Cg.mod m a).symm.trans (by rw [h]; exact Cg.refl _ _)).trans (Cg.mod m b)
theorem Cg.eq_lt {m a b : Nat} (h : Cg m a b) (hb : b < m) : a % m = b := by rw [h.eq, Nat.mod_eq_of_lt hb]

/-- The difference of two numbers below m, modulo m. -/
def subM (a b m : Nat) : Nat := if b ≤ a then a - b else a + m - b
theorem subM_lt {a b m : Nat} (ha : a < m) (hb : b < m) : subM a b m < m := by unfold subM; split <;> omega
theorem subM_cg {a b m : Nat} (hb : b < m) : Cg m (subM a b m) ((a : Int) - b) := by
  unfold subM
  split
  · exact ⟨0, by omega⟩
  · exact ⟨1, by omega⟩
/-- Half of x, or of x and m. -/
def halfM (x m : Nat) : Nat := if x % 2 = 1 then (x + m) / 2 else x / 2
theorem halfM_lt {x m : Nat} (h : x < m) : halfM x m < m := by unfold halfM; split <;> omega
theorem halfM_cg {x m : Nat} {a u : Int} (hm : m % 2 = 1) (h : Cg m (x * a) (2 * u)) : Cg m ((halfM x m : Nat) * a) u := by
  obtain ⟨k, hk⟩ := h
  obtain ⟨j, hj⟩ : ∃ j : Nat, m = 2 * j + 1 := ⟨m / 2, by omega⟩
  have key : ∀ (y t : Int), 2 * y * a = 2 * u + t * m → ∃ s, y * a - u = s * m := by
    intro y t h1
    have h2 : t = 2 * (y * a - u - t * j) := by
      have : (m : Int) = 2 * j + 1 := by omega
      rw [this] at h1
      grind
    exact ⟨y * a - u - t * j, by grind⟩
  unfold halfM
  split
  · rename_i h1
    have e : (((x + m) / 2 : Nat) : Int) * 2 = x + m := by omega
    exact key _ (k + a) (by grind)
  · have e : ((x / 2 : Nat) : Int) * 2 = x := by omega
    exact key _ k (by grind)

/-! ### Euclid, by dividing -/
structure EvInv (a m r s x y : Nat) : Prop where
  xm : x < m
  ym : y < m
  xr : Cg m (x * a) r
  ys : Cg m (y * a) s
  g : Nat.gcd r s = Nat.gcd m a
  r0 : 0 < r
  rm : r ≤ m
  sm : s < m
theorem EvInv.start {a m : Nat} (hm : 1 < m) (ha : a < m) : EvInv a m m a 0 1 :=
  ⟨by omega, hm, by simpa using (Cg.self m).symm, by simpa using Cg.refl m a, rfl, by omega, by omega, ha⟩
theorem EvInv.step {a m r s x y : Nat} (h : EvInv a m r s x y) (hs : 0 < s) : EvInv a m s (r % s) y (subM x (r / s * y % m) m) := by
  have hm : 0 < m := by have := h.xm; omega
  have hl := Nat.mod_lt (r / s * y) hm
  refine ⟨h.ym, subM_lt h.xm hl, h.ys, ?_, ?_, hs, by have := h.sm; omega, Nat.lt_trans (Nat.mod_lt _ hs) h.sm⟩
  · have h1 := (subM_cg (a := x) hl).mul (Cg.refl m (a : Int))
    have h2 := ((Cg.mod m (r / s * y)).mul (Cg.refl m (a : Int)))
    have h3 := (Cg.refl m ((r / s : Nat) : Int)).mul h.ys
    have h4 : Cg m (((r / s * y % m : Nat) : Int) * a) (((r / s : Nat) : Int) * s) := by
      refine h2.trans ?_
      rw [Int.natCast_mul, Int.mul_assoc]
      exact h3
    have e : ((r % s : Nat) : Int) = r - ((r / s : Nat) : Int) * s := by
      have := Nat.div_add_mod r s
      have h2 : ((s * (r / s) + r % s : Nat) : Int) = r := by rw [this]
      rw [Int.natCast_add, Int.natCast_mul] at h2
      grind
    rw [e]
    refine h1.trans ?_
    rw [Int.sub_mul]
    exact h.xr.sub h4
  · rw [← h.g, Nat.gcd_comm s, ← Nat.gcd_rec, Nat.gcd_comm]
theorem EvInv.done {a m r x y : Nat} (h : EvInv a m r 0 x y) : r = Nat.gcd a m ∧ Cg m (x * a) r := by
  refine ⟨?_, h.xr⟩
  have := h.g
  rw [Nat.gcd_zero_right] at this
  rw [this, Nat.gcd_comm]

/-! ### by halving and subtracting, for an odd m -/
structure OdInv (a m u v p q : Nat) : Prop where
  pm : p < m
  qm : q < m
  pu : Cg m (p * a) u
  qv : Cg m (q * a) v
  g : Nat.gcd u v = Nat.gcd a m
  v0 : 0 < v
  odd : u % 2 = 1 ∨ v % 2 = 1
  um : u ≤ m
  vm : v ≤ m
theorem OdInv.start {a m : Nat} (hm : 1 < m) (ho : m % 2 = 1) (ha : a < m) : OdInv a m a m 1 0 :=
  ⟨hm, by omega, by simpa using Cg.refl m a, by simpa using (Cg.self m).symm, rfl, by omega, .inr ho, by omega, Nat.le_refl _⟩
theorem gcd_half {u v : Nat} (hu : u % 2 = 0) (hv : v % 2 = 1) : Nat.gcd (u / 2) v = Nat.gcd u v := by
  have hc : Nat.Coprime 2 v := by
    unfold Nat.Coprime
    rw [Nat.gcd_rec, hv]
    rfl
  have e : u = 2 * (u / 2) := by omega
  conv => rhs; rw [e]
  exact (hc.gcd_mul_left_cancel (u / 2)).symm
theorem OdInv.halfU {a m u v p q : Nat} (h : OdInv a m u v p q) (ho : m % 2 = 1) (hu : u % 2 = 0) : OdInv a m (u / 2) v (halfM p m) q := by
  have hv : v % 2 = 1 := by have := h.odd; omega
  refine ⟨halfM_lt h.pm, h.qm, halfM_cg ho ?_, h.qv, by rw [gcd_half hu hv]; exact h.g, h.v0, .inr hv, by have := h.um; omega, h.vm⟩
  have e : (2 : Int) * ((u / 2 : Nat) : Int) = u := by omega
  rw [e]; exact h.pu
theorem OdInv.halfV {a m u v p q : Nat} (h : OdInv a m u v p q) (ho : m % 2 = 1) (hv : v % 2 = 0) : OdInv a m u (v / 2) p (halfM q m) := by
  have hu : u % 2 = 1 := by have := h.odd; omega
  refine ⟨h.pm, halfM_lt h.qm, h.pu, halfM_cg ho ?_, ?_, by have := h.v0; omega, .inl hu, h.um, by have := h.vm; omega⟩
  · have e : (2 : Int) * ((v / 2 : Nat) : Int) = v := by omega
    rw [e]; exact h.qv
  · rw [Nat.gcd_comm, gcd_half hv hu, Nat.gcd_comm]; exact h.g
theorem OdInv.subU {a m u v p q : Nat} (h : OdInv a m u v p q) (hu : u % 2 = 1) (hv : v % 2 = 1) (hle : v ≤ u) : OdInv a m (u - v) v (subM p q m) q := by
  refine ⟨subM_lt h.pm h.qm, h.qm, ?_, h.qv, ?_, h.v0, .inr hv, by have := h.um; omega, h.vm⟩
  · have h1 := (subM_cg (a := p) h.qm).mul (Cg.refl m (a : Int))
    refine h1.trans ?_
    rw [Int.sub_mul, Int.natCast_sub hle]
    exact h.pu.sub h.qv
  · rw [Nat.gcd_sub_self_left hle]; exact h.g
theorem OdInv.subV {a m u v p q : Nat} (h : OdInv a m u v p q) (hu : u % 2 = 1) (hv : v % 2 = 1) (hlt : u < v) : OdInv a m u (v - u) p (subM q p m) := by
  refine ⟨h.pm, subM_lt h.qm h.pm, h.pu, ?_, ?_, by omega, .inl hu, h.um, by have := h.vm; omega⟩
  · have h1 := (subM_cg (a := q) h.pm).mul (Cg.refl m (a : Int))
    refine h1.trans ?_
    rw [Int.sub_mul, Int.natCast_sub (Nat.le_of_lt hlt)]
    exact h.qv.sub h.pu
  · rw [Nat.gcd_sub_self_right (Nat.le_of_lt hlt)]; exact h.g
theorem OdInv.done {a m v p q : Nat} (h : OdInv a m 0 v p q) : v = Nat.gcd a m ∧ Cg m (q * a) v := by
  refine ⟨?_, h.qv⟩
  have := h.g
  rwa [Nat.gcd_zero_left] at this

/-! ### what is told of an inverse -/
theorem inv_of {a m x g : Nat} (hm : 1 < m) (h : Cg m (x * a) g) (hg : g = 1) : x % m * (a % m) % m = 1 := by
  subst hg
  have h2 := ((Cg.mod m x).mul (Cg.mod m a)).trans h
  rw [← Int.natCast_mul] at h2
  exact Cg.eq_lt (b := 1) h2 hm
theorem gcd_mod (a m : Nat) : Nat.gcd (a % m) m = Nat.gcd a m := by rw [← Nat.gcd_rec, Nat.gcd_comm]

/-! ### powers, bit by bit -/
theorem div_two_pow (e i : Nat) : e / 2 ^ i = 2 * (e / 2 ^ (i + 1)) + e / 2 ^ i % 2 := by
  have h : e / 2 ^ (i + 1) = e / 2 ^ i / 2 := by rw [Nat.pow_succ, Nat.div_div_eq_div_mul]
  rw [h]; omega
theorem pow_bit0 (A e i m : Nat) (h : e / 2 ^ i % 2 = 0) : A ^ (e / 2 ^ (i + 1)) % m * (A ^ (e / 2 ^ (i + 1)) % m) % m = A ^ (e / 2 ^ i) % m := by
  have e1 := div_two_pow e i
  rw [h, Nat.add_zero] at e1
  rw [e1, ← Nat.mul_mod, ← Nat.pow_add, Nat.two_mul]
theorem pow_bit1 (A e i m : Nat) (h : e / 2 ^ i % 2 = 1) : A ^ (e / 2 ^ (i + 1)) % m * (A ^ (e / 2 ^ (i + 1)) % m) % m * A % m = A ^ (e / 2 ^ i) % m := by
  have e1 := div_two_pow e i
  rw [h] at e1
  rw [e1, ← Nat.mul_mod, ← Nat.pow_add, ← Nat.two_mul, Nat.pow_succ (n := A), Nat.mod_mul_mod]

theorem Lim.of_lt {k n m : Nat} (h : Lim k m) (hn : n < m) : Lim k n := h.le (Nat.le_of_lt hn)
/-! ### what is refused -/
def bigB (n : Nat) : Bool := decide (4096 < bl n)
theorem lim_of_bl {n k : Nat} (h : bl n ≤ 32 * k) : Lim k n := ⟨by
  rw [Rpow_two]
  exact (bl_le_iff n (32 * k)).1 h⟩
theorem bigB_lim {n : Nat} (h : bigB n = false) : Lim 128 n := lim_of_bl (by have := of_decide_eq_false h; omega)
def wrongN (ns : List Nat) : Int := if ns.any bigB then 10 else if ns.getLastD 0 < 2 then 60 else 0
theorem wrongN_rng (ns : List Nat) : wrongN ns = 10 ∨ wrongN ns = 60 ∨ wrongN ns = 0 := by
  unfold wrongN
  split
  · exact .inl rfl
  · split
    · exact .inr (.inl rfl)
    · exact .inr (.inr rfl)
theorem wrongN_ok {ns : List Nat} (h : wrongN ns = 0) : (∀ n ∈ ns, Lim 128 n) ∧ 2 ≤ ns.getLastD 0 := by
  unfold wrongN at h
  split at h
  · cases h
  · rename_i h1
    split at h
    · cases h
    · rename_i h2
      refine ⟨fun n hn => bigB_lim ?_, by omega⟩
      cases hb : bigB n
      · rfl
      · exact absurd (List.any_eq_true.2 ⟨n, hn, hb⟩) h1
end Go.Sg
