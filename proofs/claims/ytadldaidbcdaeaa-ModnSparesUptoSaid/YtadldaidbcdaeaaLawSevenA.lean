/- signetlaw7: same, limbs, refuses, is, by their contracts. (Printed by gen_lawsevena.py.) -/
import Derived.Test.YtadldaidbcdaeaaModE
import Derived.Test.YtadldaidbcdaeaaOpen
import Derived.Test.YtadldaidbcdaeaaRefD
set_option linter.unusedVariables false
set_option linter.unusedSimpArgs false
namespace Go.Proofs.Ytadldaidbcdaeaa
open Go.RowKit Go.Sg

set_option maxHeartbeats 1000000 in
theorem same7_c (a a' : Option Addr) (cap cap' : Nat) (xs ys : List Int) (w : World) (hx : Sl .u32 w a cap xs) (hy : Sl .u32 w a' cap' ys) :
    Calls Try.prog 68 #[.slice a xs.length cap, .slice a' ys.length cap'] w (BoolPost (decide (xs = ys)) w) := by
  have hxm := Nat.le_trans hx.le hx.max
  have hym := Nat.le_trans hy.le hy.max
  by_cases hl : xs.length = ys.length
  · obtain ⟨n, hn⟩ : ∃ n, n = ys.length := ⟨_, rfl⟩
    have HN := Lib.hid hn
    have HX := Lib.hid (show xs.length = n by omega)
    rw [hl]
    rw [← hn] at hym ⊢
    clear hl hn hxm
    have hne : ((n : Int) != n) = false := by simp
    go_enter Try.func68, Try.ntmps68
    go_wp2_with fail
    go_loopw [5] (fun t wr => ∃ i : Nat, i ≤ n ∧ t = .int .i64 (i : Int) ∧ (∀ j, j < i → nth xs j = nth ys j) ∧ Dr w wr)
      (fun t _ => n - (intOf t).toNat)
    case atStart => exact ⟨0, by omega, rfl, fun j hj => by omega, .refl _⟩
    case round =>
      obtain ⟨i, hi, rfl, hall, nd, rfl⟩ := hrel
      have HA := Lib.hid hall
      clear hall
      by_cases hlt : i < n
      · obtain ⟨b, off, rfl, hcc⟩ := hx.cells (by have := HX.out; omega)
        obtain ⟨b', off', rfl, hcc'⟩ := hy.cells (by have := HN.out; omega)
        have c1 := hcc i (by have := HX.out; omega)
        have c2 := hcc' i (by have := HN.out; omega)
        clear hcc hcc'
        by_cases he : nth xs i = nth ys i
        · have HE := Lib.hid he
          have g1 : (nth xs i != nth ys i) = false := by rw [he]; simp
          clear he
          go_wp2_with fail
          go_quiet (fail)
          go_wp2_with fail
          go_roundw
          case rel => exact ⟨i + 1, by omega, by go_num, fun j hj => by
            by_cases h : j = i
            · rw [h]; exact HE.out
            · exact HA.out j (by omega), (by repeat (first | exact Dr.refl _ | apply Dr.drewN))⟩
          case measure => simp [intOf]; omega
        · have HE := Lib.hid (show decide (xs = ys) = false from decide_eq_false fun h => he (by rw [h]))
          have g1 : (nth xs i != nth ys i) = true := by simpa using he
          clear he
          go_wp2_with fail
          go_quiet (fail)
          go_wp2_with fail
          go_ret
          exact ⟨by rw [HE.out]; rfl, (by repeat (first | exact Dr.refl _ | apply Dr.drewN))⟩
      · have HE := Lib.hid (show decide (xs = ys) = true from decide_eq_true (eq_of_nth (by rw [HX.out, HN.out]) fun j hj => HA.out j (by have := HX.out; omega)))
        go_wp2_with fail
        go_ret
        exact ⟨by rw [HE.out]; rfl, nd, rfl⟩
  · have HE := Lib.hid (show decide (xs = ys) = false from decide_eq_false fun h => hl (by rw [h]))
    have hne : ((xs.length : Int) != ys.length) = true := by simp; omega
    clear hl
    go_enter Try.func68, Try.ntmps68
    go_wp2_with fail
    go_ret
    exact ⟨by rw [HE.out]; rfl, .refl _⟩


theorem same_can {v v' : Value} {n n' : Nat} {W : World} (h : CanAt W v n) (h' : CanAt W v' n') : Calls Try.prog 68 #[v, v'] W (BoolPost (decide (n = n')) W) := by
  obtain ⟨a, c, zs, rfl, s, cz, u, rfl, hl⟩ := h
  obtain ⟨a', c', zs', rfl, s', cz', u', rfl, hl'⟩ := h'
  have e : decide (val zs = val zs') = decide (zs = zs') := by
    rw [decide_eq_decide]
    exact ⟨fun h => cz.ext cz' u u' h, fun h => by rw [h]⟩
  rw [e]
  exact same7_c _ _ _ _ _ _ _ s s'
theorem same_yes {v v' : Value} {n n' : Nat} {W : World} (h : CanAt W v n) (h' : CanAt W v' n') (e : n = n') : Calls Try.prog 68 #[v, v'] W (BoolPost true W) := by
  have := same_can h h'
  rwa [decide_eq_true e] at this

set_option maxHeartbeats 1000000 in
theorem limbs_c (a : Option Addr) (cap : Nat) (zs : List Int) (w : World) (hc : Sl .u32 w a cap zs) :
    Calls Try.prog 70 #[.slice a zs.length cap] w fun e w' => e = .returned (.int .i64 (topz zs : Nat)) ∧ w = w' := by
  have hm := Nat.le_trans hc.le hc.max
  obtain ⟨l, hl1⟩ : ∃ l, l = zs.length := ⟨_, rfl⟩
  have HL := Lib.hid hl1
  rw [← hl1] at hm ⊢
  clear hl1
  go_enter Try.func70, Try.ntmps70
  go_wp2_with fail
  go_loop [3] (fun t => ∃ k : Nat, k ≤ l ∧ t = .int .i64 (k : Int) ∧ topz (zs.take k) = topz zs) (fun t => (intOf t).toNat)
  case atStart => exact ⟨l, Nat.le_refl _, rfl, by rw [List.take_of_length_le (by rw [HL.out]; exact Nat.le_refl _)]⟩
  case round =>
    obtain ⟨k, hk, rfl, ht⟩ := hrel
    have HT := Lib.hid ht
    clear ht
    by_cases hk0 : k = 0
    · subst hk0
      have fin : Hid (topz zs = 0) := Lib.hid (by rw [← HT.out]; rfl)
      go_wp2_with fail
      go_ret
      exact ⟨by rw [fin.out]; first | done | rfl, rfl⟩
    · obtain ⟨j, rfl⟩ : ∃ j, k = j + 1 := ⟨k - 1, by omega⟩
      obtain ⟨b, off, rfl, hcc⟩ := hc.cells (by rw [← HL.out]; omega)
      have c1 := hcc j (by rw [← HL.out]; omega)
      have hpi : ((j + 1 : Nat) : Int) - 1 = (j : Int) := by omega
      have hd : decide ((0 : Int) < ((j + 1 : Nat) : Int)) = true := decide_eq_true (by omega)
      clear hcc
      by_cases h0 : nth zs j = 0
      · have g0 : (nth zs j == 0) = true := by simpa using h0
        have HD := Lib.hid (topz_down zs (j + 1) (by omega) (by rw [← HL.out]; exact hk) (by simpa using h0))
        clear h0
        go_wp2_with fail
        go_round
        case rel => exact ⟨j, by omega, by go_num, by have h := HD.out; rw [Nat.add_sub_cancel] at h; rw [← h]; exact HT.out⟩
        case measure => simp [intOf]
      · have g0 : (nth zs j == 0) = false := by simpa using h0
        have HD : Hid (topz zs = j + 1) := Lib.hid (by rw [← HT.out]; exact topz_stop zs (j + 1) (by omega) (by rw [← HL.out]; exact hk) (by simpa using h0))
        clear h0
        go_wp2_with fail
        go_ret
        exact ⟨by rw [HD.out]; first | done | rfl, rfl⟩
theorem limbs_v {v : Value} {n : Nat} {W : World} (h : NumAt W v n) : Calls Try.prog 70 #[v] W fun e w' => e = .returned (.int .i64 (nl n : Nat)) ∧ W = w' := by
  obtain ⟨a, c, zs, rfl, s, u, rfl, hl⟩ := h
  have := limbs_c a c zs W s
  rwa [topz_nl u] at this

set_option maxHeartbeats 2000000 in
theorem refuses_v {v v' v'' : Value} {n n' m : Nat} {W : World} (h : NumAt W v n) (h' : NumAt W v' n') (h'' : NumAt W v'' m) :
    Calls Try.prog 65 #[v, v', v''] W fun e w' => e = .returned (.int .i64 (wrongN [n, n', m])) ∧ W = w' := by
  have l1 := limbs_v h
  have l2 := limbs_v h'
  have l3 := limbs_v h''
  rw [wrongN3]
  have b1 := nl_big n
  have b2 := nl_big n'
  have b3 := nl_big m
  obtain ⟨a'', c'', zs, rfl, s, u, hv, hl⟩ := h''
  have ht := topz_nl u
  rw [hv] at ht
  have hz : nl m = 0 ↔ m = 0 := by
    unfold nl
    constructor
    · intro h
      by_cases h0 : m = 0
      · exact h0
      · have := bl_pos h0
        omega
    · rintro rfl; rfl
  have hone : nl m = 1 → ∃ b off, a'' = some ⟨b, off, none⟩ ∧ W.cell? ⟨b, off, none⟩ = some (.int .u32 (m : Int)) ∧ m < 4294967296 := by
    intro h1
    have hp : 0 < zs.length := by have := topz_le zs; omega
    obtain ⟨b, off, rfl, hcc⟩ := s.cells hp
    refine ⟨b, off, rfl, ?_⟩
    have c0 := hcc 0 hp
    rw [Nat.add_zero] at c0
    have e1 : val zs = lb zs 0 := by
      rw [← val_norm]
      have hn : norm zs = zs.take 1 := by unfold norm; rw [ht, h1]
      rw [hn]
      have := val_take_succ zs 0 hp
      simpa [val_nil] using this
    have e2 := lb_cast u 0
    rw [← e1, hv] at e2
    rw [← e2] at c0
    have := lb_lt u 0
    rw [← e1, hv] at this
    exact ⟨c0, this⟩
  obtain ⟨x, hx⟩ : ∃ x, x = nl n := ⟨_, rfl⟩
  obtain ⟨y, hy⟩ : ∃ y, y = nl n' := ⟨_, rfl⟩
  obtain ⟨z, hzz⟩ : ∃ z, z = nl m := ⟨_, rfl⟩
  rw [← hx] at l1 b1
  rw [← hy] at l2 b2
  have hn1 : m = 1 → z = 1 := fun h => by rw [hzz, h]; rfl
  rw [← hzz] at l3 b3 hz hone
  have d1 : decide ((128 : Int) < (x : Int)) = bigB n := by rw [← b1, decide_eq_decide]; omega
  have d2 : decide ((128 : Int) < (y : Int)) = bigB n' := by rw [← b2, decide_eq_decide]; omega
  have d3 : decide ((128 : Int) < (z : Int)) = bigB m := by rw [← b3, decide_eq_decide]; omega
  obtain ⟨ml, hml⟩ : ∃ ml, ml = zs.length := ⟨_, rfl⟩
  have hml0 : z = 1 → 0 < ml := fun h => by have := topz_le zs; omega
  rw [← hml] at l3 ⊢
  clear hx hy hzz hv ht s u hml b1 b2 b3
  obtain ⟨B1, hB1⟩ : ∃ b, b = bigB n := ⟨_, rfl⟩
  obtain ⟨B2, hB2⟩ : ∃ b, b = bigB n' := ⟨_, rfl⟩
  obtain ⟨B3, hB3⟩ : ∃ b, b = bigB m := ⟨_, rfl⟩
  rw [← hB1] at d1 ⊢
  rw [← hB2] at d2 ⊢
  rw [← hB3] at d3 ⊢
  clear hB1 hB2 hB3
  cases B1
  · cases B2
    · cases B3
      · rw [if_neg (by simp)]
        by_cases z0 : m = 0
        · have e0 : z = 0 := hz.2 z0
          subst e0 z0
          clear hz hone hml0 hn1
          go_enter Try.func65, Try.ntmps65
          go_wp2_with fail
          refine l1.mono ?_; rintro e w' ⟨rfl, rfl⟩
          go_wp2_with fail
          refine l2.mono ?_; rintro e w' ⟨rfl, rfl⟩
          go_wp2_with fail
          refine l3.mono ?_; rintro e w' ⟨rfl, rfl⟩
          go_wp2_with fail
          refine l3.mono ?_; rintro e w' ⟨rfl, rfl⟩
          go_wp2_with fail
          go_ret
          exact ⟨rfl, rfl⟩
        · have e0 : z ≠ 0 := fun h => z0 (hz.1 h)
          have g0 : ((z : Int) == 0) = false := by simp; omega
          by_cases z1 : z = 1
          · subst z1
            obtain ⟨b, off, rfl, c0, hlt⟩ := hone rfl
            have hmlp := hml0 rfl
            have hmi : (0 : Int) < (ml : Int) := by omega
            clear hz hone hml0 hn1 e0
            by_cases m1 : m = 1
            · subst m1
              go_enter Try.func65, Try.ntmps65
              go_wp2_with fail
              refine l1.mono ?_; rintro e w' ⟨rfl, rfl⟩
              go_wp2_with fail
              refine l2.mono ?_; rintro e w' ⟨rfl, rfl⟩
              go_wp2_with fail
              refine l3.mono ?_; rintro e w' ⟨rfl, rfl⟩
              go_wp2_with fail
              refine l3.mono ?_; rintro e w' ⟨rfl, rfl⟩
              go_wp2_with fail
              refine l3.mono ?_; rintro e w' ⟨rfl, rfl⟩
              go_wp2_with fail
              go_ret
              exact ⟨rfl, rfl⟩
            · have g1 : ((m : Int) == 1) = false := by simp; omega
              rw [if_neg (by omega)]
              go_enter Try.func65, Try.ntmps65
              go_wp2_with fail
              refine l1.mono ?_; rintro e w' ⟨rfl, rfl⟩
              go_wp2_with fail
              refine l2.mono ?_; rintro e w' ⟨rfl, rfl⟩
              go_wp2_with fail
              refine l3.mono ?_; rintro e w' ⟨rfl, rfl⟩
              go_wp2_with fail
              refine l3.mono ?_; rintro e w' ⟨rfl, rfl⟩
              go_wp2_with fail
              refine l3.mono ?_; rintro e w' ⟨rfl, rfl⟩
              go_wp2_with fail
              go_ret
              exact ⟨rfl, rfl⟩
          · have g1 : ((z : Int) == 1) = false := by simp; omega
            rw [if_neg (by
              intro h2
              have hm1 : m = 1 := by omega
              exact z1 (hn1 hm1))]
            clear hz hone hml0 hn1 e0
            go_enter Try.func65, Try.ntmps65
            go_wp2_with fail
            refine l1.mono ?_; rintro e w' ⟨rfl, rfl⟩
            go_wp2_with fail
            refine l2.mono ?_; rintro e w' ⟨rfl, rfl⟩
            go_wp2_with fail
            refine l3.mono ?_; rintro e w' ⟨rfl, rfl⟩
            go_wp2_with fail
            refine l3.mono ?_; rintro e w' ⟨rfl, rfl⟩
            go_wp2_with fail
            refine l3.mono ?_; rintro e w' ⟨rfl, rfl⟩
            go_wp2_with fail
            go_ret
            exact ⟨rfl, rfl⟩
      · rw [if_pos (by simp)]
        clear hz hone hml0 hn1
        go_enter Try.func65, Try.ntmps65
        go_wp2_with fail
        refine l1.mono ?_; rintro e w' ⟨rfl, rfl⟩
        go_wp2_with fail
        refine l2.mono ?_; rintro e w' ⟨rfl, rfl⟩
        go_wp2_with fail
        refine l3.mono ?_; rintro e w' ⟨rfl, rfl⟩
        go_wp2_with fail
        go_ret
        exact ⟨rfl, rfl⟩
    · rw [if_pos (by simp)]
      clear hz hone hml0 hn1
      go_enter Try.func65, Try.ntmps65
      go_wp2_with fail
      refine l1.mono ?_; rintro e w' ⟨rfl, rfl⟩
      go_wp2_with fail
      refine l2.mono ?_; rintro e w' ⟨rfl, rfl⟩
      go_wp2_with fail
      go_ret
      exact ⟨rfl, rfl⟩
  · rw [if_pos (by simp)]
    clear hz hone hml0 hn1
    go_enter Try.func65, Try.ntmps65
    go_wp2_with fail
    refine l1.mono ?_; rintro e w' ⟨rfl, rfl⟩
    go_wp2_with fail
    go_ret
    exact ⟨rfl, rfl⟩
end Go.Proofs.Ytadldaidbcdaeaa
