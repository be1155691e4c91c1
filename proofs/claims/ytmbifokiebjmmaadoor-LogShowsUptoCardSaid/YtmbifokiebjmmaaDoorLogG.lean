/- signetref36: half, Grown by their contracts. -/
import Derived.Test.YtmbifokiebjmmaaDoorLogS
import Derived.Test.YtmbifokiebjmmaaDoorLogH
set_option linter.unusedVariables false
set_option linter.unusedSimpArgs false
namespace Go.Sg
open Go.RowKit
theorem waysH_same {h n : Nat} : waysH h n n = [] := by
  cases h with
  | zero => rfl
  | succ h => rw [waysH, if_pos rfl]
theorem waysH_succ {h n m : Nat} (hn : n ≤ 2 ^ h) : waysH (h + 1) n m = waysH h n m := by
  by_cases e : m = n
  · subst e; rw [waysH_same, waysH_same]
  · rw [waysH, if_neg e, if_pos hn]
theorem waysH_any {h h' n m : Nat} (h1 : n ≤ 2 ^ h) (h2 : n ≤ 2 ^ h') : waysH h n m = waysH h' n m := by
  have add : ∀ (h k : Nat), n ≤ 2 ^ h → waysH (h + k) n m = waysH h n m := by
    intro h k hn
    induction k with
    | zero => rfl
    | succ k ih => rw [← Nat.add_assoc, waysH_succ (Nat.le_trans hn (Nat.pow_le_pow_right (by omega) (by omega))), ih]
  by_cases c : h ≤ h'
  · obtain ⟨k, rfl⟩ : ∃ k, h' = h + k := ⟨h' - h, by omega⟩
    rw [add h k h1]
  · obtain ⟨k, rfl⟩ : ∃ k, h = h' + k := ⟨h - h', by omega⟩
    rw [add h' k h2]
theorem waysH_left {h n m j : Nat} (hh : n ≤ 2 ^ h) (hne : m ≠ n) (h1 : 2 ^ j < n) (h2 : n ≤ 2 ^ (j + 1)) (hm : m ≤ 2 ^ j) : waysH h n m = true :: waysH j (2 ^ j) m := by
  rw [waysH_any hh h2, waysH, if_neg hne, if_neg (by omega), if_pos hm]
theorem waysH_right {h n m j : Nat} (hh : n ≤ 2 ^ h) (hne : m ≠ n) (h1 : 2 ^ j < n) (h2 : n ≤ 2 ^ (j + 1)) (hm : ¬ m ≤ 2 ^ j) : waysH h n m = false :: waysH j (n - 2 ^ j) (m - 2 ^ j) := by
  rw [waysH_any hh h2, waysH, if_neg hne, if_neg (by omega), if_neg hm]
theorem waysH_le : ∀ (h n m : Nat), (waysH h n m).length ≤ h
  | 0, n, m => by simp [waysH]
  | h + 1, n, m => by
    rw [waysH]
    have i1 := waysH_le h n m
    have i2 := waysH_le h (2 ^ h) m
    have i3 := waysH_le h (n - 2 ^ h) (m - 2 ^ h)
    split
    · simp
    · split
      · omega
      · split <;> simp only [List.length_cons] <;> omega
theorem upW_nil {α : Type} {P : α → α → α} (x : α × α) (p : List α) : upW P [] x p = x := by cases p <;> rfl
end Go.Sg
namespace Go.Proofs.YtmbifokiebjmmaaDoor
open Go.RowKit Go.Sg
set_option maxHeartbeats 4000000 in
set_option maxRecDepth 20000 in
theorem half_c (n : Nat) (w : World) (h2 : 2 ≤ n) (hm : n ≤ 9223372036854775807) :
    Calls Tryd.prog 53 #[.int .i64 (n : Int)] w (fun e w' => ∃ k j : Nat, e = .returned (.int .i64 (k : Int)) ∧ k = 2 ^ j ∧ k < n ∧ n ≤ 2 ^ (j + 1) ∧ w' = w) := by
  go_enter Tryd.func53, Tryd.ntmps53
  go_wp2_with fail
  go_loopw [3] (fun t wr => ∃ k j : Nat, t = .int .i64 (k : Int) ∧ k = 2 ^ j ∧ k < n ∧ wr = w) (fun t _ => n - (intOf t).toNat)
  case atStart => exact ⟨1, 0, rfl, rfl, by omega, rfl⟩
  case round =>
    obtain ⟨k, j, rfl, hk, hj, hw⟩ := hrel
    subst hw
    have HK := Lib.hid hk
    have E2 := Lib.hid (pow2_succ j)
    have p0 : 0 < k := by rw [hk]; exact Nat.pow_pos (by omega)
    clear hk
    have ki : (k : Int) < (n : Int) := by omega
    have ni : (n : Int) ≤ 9223372036854775807 := by omega
    by_cases hlt : k < n - k
    · have hd : decide ((k : Int) < (n : Int) - (k : Int)) = true := decide_eq_true (by omega)
      have hi : (k : Int) < (n : Int) - (k : Int) := by omega
      go_wp2_with fail
      go_roundw
      case rel => exact ⟨k * 2, j + 1, by go_num, by rw [E2.out, ← HK.out]; omega, by omega, by first | trivial | rfl⟩
      case measure => simp [intOf]; omega
    · have hd : decide ((k : Int) < (n : Int) - (k : Int)) = false := decide_eq_false (by omega)
      have hi : ¬ (k : Int) < (n : Int) - (k : Int) := by omega
      go_wp2_with fail
      go_ret
      exact ⟨k, rfl, j, HK.out, hj, by rw [E2.out, ← HK.out]; omega, rfl⟩
/-- half as a number that is known ahead of the call. -/
theorem half_any (n : Nat) (h2 : 2 ≤ n) (hm : n ≤ 9223372036854775807) : ∃ k j : Nat, k = 2 ^ j ∧ k < n ∧ n ≤ 2 ^ (j + 1) ∧ ∀ w, Calls Tryd.prog 53 #[.int .i64 (n : Int)] w (fun e w' => e = .returned (.int .i64 (k : Int)) ∧ w' = w) := by
  have uniq : ∀ a b : Nat, 2 ^ a < n → n ≤ 2 ^ (a + 1) → 2 ^ b < n → n ≤ 2 ^ (b + 1) → a = b := fun a b a1 a2 b1 b2 => by
    have h1 := (Nat.pow_lt_pow_iff_right (a := 2) (by omega)).1 (Nat.lt_of_lt_of_le a1 b2)
    have h2 := (Nat.pow_lt_pow_iff_right (a := 2) (by omega)).1 (Nat.lt_of_lt_of_le b1 a2)
    omega
  have l1 := Nat.log2_self_le (n := n - 1) (by omega)
  have l2 := Nat.lt_log2_self (n := n - 1)
  refine ⟨2 ^ Nat.log2 (n - 1), Nat.log2 (n - 1), rfl, by omega, by omega, fun w => ?_⟩
  refine (half_c n w h2 hm).mono ?_
  rintro e w' ⟨k, j, rfl, rfl, h3, h4, rfl⟩
  obtain rfl := uniq j (Nat.log2 (n - 1)) h3 h4 (by omega) (by omega)
  exact ⟨rfl, rfl⟩
theorem infoB1 : (Tryd.prog.info? 4).map (fun i => (i.zero, i.size, i.bytes)) = some (some (.bool false), 1, 1) := by kernel_rfl

set_option maxHeartbeats 16000000 in
set_option maxRecDepth 20000 in
theorem rGrown_c (A : Option Addr) (cap : Nat) (old root : List Int) (p : List (List Int)) (n m : Int) (w : World) (uo : U8 old) (ur : U8 root) (hp : Ss w A cap p) (hpl : p.length ≤ 4294967296) (bm : m ≤ 9223372036854775807) (ht : RefTabs w) :
    Calls Tryd.prog 25 #[str old, .int .i64 n, str root, .int .i64 m, .slice A p.length cap] w (TellPost (decide (growP old n root m p)) w) := by
  have hc := hashes_c A cap p w hp
  have z1 : (strOfNums old).size = old.length := strOfNums_size _
  have z2 : (strOfNums root).size = root.length := strOfNums_size _
  obtain ⟨B, hB'⟩ : ∃ b, b = decide (∀ s ∈ p, s.length = 32) := ⟨_, rfl⟩
  have HB := Lib.hid hB'
  rw [← hB'] at hc
  clear hB'
  have no : ∀ {e : Ending} {w' : World}, ¬ growP old n root m p → e = .returned (.bool false) → w' = w → TellPost (decide (growP old n root m p)) w e w' := fun h he hw => by
    subst hw
    rw [decide_eq_false h]
    exact ⟨he, .refl _ _⟩
  by_cases h3 : 0 ≤ n
  · have g3 : decide (n < 0) = false := decide_eq_false (by omega)
    have g3' : ¬ n < 0 := by omega
    by_cases h4 : n ≤ m
    · have g4 : decide (m < n) = false := decide_eq_false (by omega)
      have g4' : ¬ m < n := by omega
      by_cases h1 : old.length = 32
      · have g1 : ((old.length : Int) != 32) = false := by simp; omega
        by_cases h2 : root.length = 32
        · have g2 : ((root.length : Int) != 32) = false := by simp; omega
          cases B with
          | false =>
            obtain ⟨z, hz⟩ : ∃ z, z = p.length := ⟨_, rfl⟩
            rw [← hz] at hc ⊢
            clear hz
            go_enter Tryd.func25, Tryd.ntmps25
            go_wp2_with fail
            refine hc.mono ?_; rintro e_ w1 ⟨rfl, hw1⟩
            have hw2 := hw1.symm; subst hw2; clear hw1
            go_wp2_with fail
            go_ret
            exact no (fun h => of_decide_eq_false HB.out.symm h.2.1) rfl rfl
          | true =>
            have hall := of_decide_eq_true HB.out.symm
            obtain ⟨N, rfl⟩ : ∃ N : Nat, n = (N : Int) := ⟨n.toNat, by omega⟩
            obtain ⟨M, rfl⟩ : ∃ M : Nat, m = (M : Int) := ⟨m.toNat, by omega⟩
            by_cases h0 : N = 0
            · subst h0
              rw [show ((0 : Nat) : Int) = 0 from rfl] at no h3 h4 g3 g3' g4 g4' ⊢
              have cs := sum_c [] w (.nil (by decide)) (by simp) ht
              have EQ : Hid (decide (growP old 0 root (M : Int) p) = (decide (p = []) && (decide (old = shaD []) && (decide (0 < M) || decide (root = old))))) := Lib.hid (by
                have e : growP old 0 root (M : Int) p ↔ (p = [] ∧ old = shaD [] ∧ (0 < M ∨ root = old)) := by
                  unfold growP
                  rw [if_pos (show (0 : Int) = 0 from rfl)]
                  exact ⟨fun h => ⟨h.2.2.2.2.1, h.2.2.2.2.2.1, h.2.2.2.2.2.2.imp (fun h => by omega) id⟩, fun h => ⟨⟨h1, h2⟩, hall, h3, h4, h.1, h.2.1, h.2.2.imp (fun h => by omega) id⟩⟩
                exact Bool.eq_iff_iff.2 (by
                  simp only [decide_eq_true_eq, Bool.and_eq_true, Bool.or_eq_true]
                  exact e))
              have se := str_eq uo (shaD_dig []).2
              have se2 := str_eq ur uo
              obtain ⟨z, hz⟩ : ∃ z, z = p.length := ⟨_, rfl⟩
              rw [← hz] at hc ⊢
              by_cases hz0 : z = 0
              · have e0 : p = [] := List.length_eq_zero_iff.1 (by omega)
                subst hz0
                by_cases ho : old = shaD []
                · have eo : decide (old = shaD []) = true := decide_eq_true ho
                  by_cases hM : 0 < M
                  · have eM : decide (0 < M) = true := decide_eq_true hM
                    have F : Hid (decide (growP old 0 root (M : Int) p) = true) := Lib.hid (by rw [EQ.out, eo, eM, decide_eq_true e0]; rfl)
                    have eM2 : decide ((0 : Int) < (M : Int)) = true := decide_eq_true (by omega)
                    rw [eo] at se
                    clear ho eo no hall e0 hz
                    go_enter Tryd.func25, Tryd.ntmps25
                    go_wp2_with fail
                    refine hc.mono ?_; rintro e_ w1 ⟨rfl, hw1⟩
                    have hw2 := hw1.symm; subst hw2; clear hw1 hc
                    go_wp2_with fail
                    refine cs.mono ?_; rintro e_ w2 ⟨rfl, hb⟩
                    clear cs
                    go_wp2_with fail
                    go_ret
                    exact ⟨by rw [F.out]; rfl, hb⟩
                  · obtain rfl : M = 0 := by omega
                    obtain ⟨R, hR⟩ : ∃ R, R = decide (root = old) := ⟨_, rfl⟩
                    rw [show ((0 : Nat) : Int) = 0 from rfl] at EQ ⊢
                    have F : Hid (decide (growP old 0 root 0 p) = R) := Lib.hid (by rw [EQ.out, eo, decide_eq_true e0, ← hR]; rfl)
                    rw [eo] at se
                    rw [← hR] at se2
                    clear ho eo no hall e0 hz hR
                    go_enter Tryd.func25, Tryd.ntmps25
                    go_wp2_with fail
                    refine hc.mono ?_; rintro e_ w1 ⟨rfl, hw1⟩
                    have hw2 := hw1.symm; subst hw2; clear hw1 hc
                    go_wp2_with fail
                    refine cs.mono ?_; rintro e_ w2 ⟨rfl, hb⟩
                    clear cs
                    go_wp2_with fail
                    go_ret
                    exact ⟨by rw [F.out]; rfl, hb⟩
                · have eo : decide (old = shaD []) = false := decide_eq_false ho
                  have F : Hid (decide (growP old 0 root (M : Int) p) = false) := Lib.hid (by rw [EQ.out, eo]; simp)
                  rw [eo] at se
                  clear ho eo no hall e0 hz
                  go_enter Tryd.func25, Tryd.ntmps25
                  go_wp2_with fail
                  refine hc.mono ?_; rintro e_ w1 ⟨rfl, hw1⟩
                  have hw2 := hw1.symm; subst hw2; clear hw1 hc
                  go_wp2_with fail
                  refine cs.mono ?_; rintro e_ w2 ⟨rfl, hb⟩
                  clear cs
                  go_wp2_with fail
                  go_ret
                  exact ⟨by rw [F.out]; rfl, hb⟩
              · have z0 : ((z : Int) == 0) = false := by simp; omega
                have F : Hid (decide (growP old 0 root (M : Int) p) = false) := Lib.hid (by
                  rw [EQ.out, decide_eq_false (show ¬ p = [] from fun h => by subst h; simp at hz; omega)]
                  rfl)
                clear no hall hz
                go_enter Tryd.func25, Tryd.ntmps25
                go_wp2_with fail
                refine hc.mono ?_; rintro e_ w1 ⟨rfl, hw1⟩
                have hw2 := hw1.symm; subst hw2; clear hw1 hc
                go_wp2_with fail
                go_ret
                exact ⟨by rw [F.out]; rfl, .refl _ _⟩
            · have n0 : ((N : Int) == 0) = false := by simp; omega
              by_cases hNM : N = M
              · subst hNM
                have se2 := str_eq ur uo
                obtain ⟨R, hR⟩ : ∃ R, R = decide (root = old) := ⟨_, rfl⟩
                obtain ⟨z, hz⟩ : ∃ z, z = p.length := ⟨_, rfl⟩
                rw [← hz] at hc ⊢
                have EQ : Hid (decide (growP old (N : Int) root (N : Int) p) = (((z : Int) == 0) && R)) := Lib.hid (by
                  have e : growP old (N : Int) root (N : Int) p ↔ (p = [] ∧ root = old) := by
                    unfold growP
                    rw [if_neg (by omega), Int.toNat_natCast, bothH_same]
                    have e2 : lastB true old p = some (old, root) ↔ (p = [] ∧ root = old) := by
                      unfold lastB
                      rw [if_pos rfl]
                      by_cases h : p = []
                      · rw [if_pos h]
                        simp [h, eq_comm]
                      · rw [if_neg h]
                        simp [h]
                    exact ⟨fun h => e2.1 h.2.2.2.2, fun h => ⟨⟨h1, h2⟩, hall, by omega, by omega, e2.2 h⟩⟩
                  rw [hR]
                  exact Bool.eq_iff_iff.2 (by
                    simp only [decide_eq_true_eq, Bool.and_eq_true, beq_iff_eq]
                    rw [e]
                    exact and_congr_left fun _ => ⟨fun h => by subst h; simpa using hz, fun h => List.length_eq_zero_iff.1 (by omega)⟩))
                rw [← hR] at se2
                by_cases hz0 : z = 0
                · subst hz0
                  clear no hall hz hR
                  go_enter Tryd.func25, Tryd.ntmps25
                  go_wp2_with fail
                  refine hc.mono ?_; rintro e_ w1 ⟨rfl, hw1⟩
                  have hw2 := hw1.symm; subst hw2; clear hw1 hc
                  go_wp2_with fail
                  go_ret
                  exact ⟨by rw [EQ.out]; rfl, .refl _ _⟩
                · have z0 : ((z : Int) == 0) = false := by simp; omega
                  clear no hall hz hR
                  go_enter Tryd.func25, Tryd.ntmps25
                  go_wp2_with fail
                  refine hc.mono ?_; rintro e_ w1 ⟨rfl, hw1⟩
                  have hw2 := hw1.symm; subst hw2; clear hw1 hc
                  go_wp2_with fail
                  go_ret
                  exact ⟨by rw [EQ.out, z0]; rfl, .refl _ _⟩
              · have nm : ((N : Int) == (M : Int)) = false := by simp; omega
                have hM9 : M ≤ 9223372036854775807 := by omega
                have hNM' : N < M := by omega
                obtain ⟨WS, hWS⟩ : ∃ l, l = waysH 63 M N := ⟨_, rfl⟩
                have HWS := Lib.hid hWS
                have LWS : WS.length ≤ 63 := by rw [hWS]; exact waysH_le _ _ _
                have EQ : Hid (decide (growP old (N : Int) root (M : Int) p) = decide (shownW pairD WS true old p = some (old, root))) := Lib.hid (by
                  have e : growP old (N : Int) root (M : Int) p ↔ shownW pairD WS true old p = some (old, root) := by
                    unfold growP
                    rw [if_neg (by omega), Int.toNat_natCast, Int.toNat_natCast, bothH_ways _ _ _ _ _ _ (by omega) (by omega) (by omega), ← hWS]
                    exact ⟨fun h => h.2.2.2.2, fun h => ⟨⟨h1, h2⟩, hall, by omega, by omega, h⟩⟩
                  exact decide_eq_decide.2 e)
                have LO := Lib.hid h1
                have HALL := Lib.hid hall
                obtain ⟨z, hz⟩ : ∃ z, z = p.length := ⟨_, rfl⟩
                have HZ := Lib.hid hz
                rw [← hz] at hc ⊢
                have hpz : z ≤ 4294967296 := by omega
                clear hWS hall no hz
                go_enter Tryd.func25, Tryd.ntmps25
                go_wp2_with fail
                refine hc.mono ?_; rintro e_ w1 ⟨rfl, hw1⟩
                have hw2 := hw1.symm; subst hw2; clear hw1 hc
                go_wp2_with fail
                clear h1 h2 g1 g2 g3 g3' g4 g4' h3 h4 n0 nm
                go_loopw [11, 12, 13, 14, 15] (fun l wh sm sn sk wr => ∃ (h mm nn : Nat) (L : List Bool), sm = .int .i64 (mm : Int) ∧ sn = .int .i64 (nn : Int) ∧ wh = .bool (L.all id) ∧ NewV w.heap.size 4 wr l (L.map Value.bool) ∧ L ++ waysH h nn mm = WS ∧ 1 ≤ mm ∧ mm ≤ nn ∧ nn ≤ 2 ^ h ∧ nn ≤ M ∧ Below w.heap.size w wr) (fun _ _ _ sn _ _ => (intOf sn).toNat)
                case atStart => exact ⟨63, N, M, [], rfl, rfl, rfl, .nil _ _ _, HWS.out.symm, by omega, by omega, by omega, by omega, .refl _ _⟩
                case round =>
                  obtain ⟨h, mm, nn, L, rfl, rfl, rfl, hv, hL, hm1, hmn, hnh, hnM, hb⟩ := hrel
                  have HL := Lib.hid hL
                  have LL : L.length ≤ 63 := by rw [← hL, List.length_append] at LWS; omega
                  have HNH := Lib.hid hnh
                  clear hL hnh
                  obtain ⟨wA, hwA⟩ : ∃ b, b = L.all id := ⟨_, rfl⟩
                  have HWA := Lib.hid hwA
                  rw [← hwA]
                  clear hwA
                  by_cases hlt : mm < nn
                  · obtain ⟨k, j, hk, hkn, hnk, hs⟩ := half_any nn (by omega) (by omega)
                    have HK := Lib.hid hk
                    have l1 : decide ((mm : Int) < (nn : Int)) = true := decide_eq_true (by omega)
                    have l1' : (mm : Int) < (nn : Int) := by omega
                    have l1n : decide (mm < nn) = true := decide_eq_true hlt
                    have ni : (nn : Int) ≤ 9223372036854775807 := by omega
                    have k0 : 0 < k := by rw [hk]; exact Nat.pow_pos (by omega)
                    clear hk
                    go_wp2_with fail
                    refine (hs _).mono ?_; rintro e_ w2 ⟨rfl, hw'⟩; have hw2 := hw'.symm; subst hw2; clear hw'
                    by_cases hle : mm ≤ k
                    · have l2 : decide ((mm : Int) ≤ (k : Int)) = true := decide_eq_true (by omega)
                      have l2' : (mm : Int) ≤ (k : Int) := by omega
                      have l2n : decide (mm ≤ k) = true := decide_eq_true hle
                      have al := (Below.refl wr.heap.size wr).alloc (Nat.le_refl _) (.cells #[.bool true] 4)
                      have hv1 := hv.keep al
                      have hB1 := hb.trans (al.mono hb.size)
                      have lv := fun g hg => (hv.lt g hg).1
                      clear hv hb
                      go_wp2_with (at_builtin; refine wpList_append_newX _ rfl _ _ 79 rfl w.heap.size 4 1 (.bool false) rfl Tryd.underlying79 infoB1 _ _ rfl hv1 _ 1 (.bool true) rfl rfl (cell_new1 _ _ _ _) (by rw [List.length_map]; omega) (by rw [List.length_map]; omega) hB1.size ?_)
                      intro v' w2 hv2 hg2 ho2
                      have hB2 := hB1.grown hg2 hB1.size lv
                      clear hv1 hg2 ho2 hB1 lv
                      go_wp2_with fail
                      go_roundw
                      case rel =>
                        refine ⟨j, mm, k, L ++ [true], rfl, rfl, by rw [HWA.out]; simp, by rw [List.map_append]; exact hv2, ?_, hm1, hle, by rw [HK.out]; exact Nat.le_refl _, by omega, hB2⟩
                        rw [← HL.out, waysH_left HNH.out (by omega) (by rw [← HK.out]; exact hkn) hnk (by rw [← HK.out]; exact hle), ← HK.out]
                        simp
                      case measure => simp [intOf]; omega
                    · have l2 : decide ((mm : Int) ≤ (k : Int)) = false := decide_eq_false (by omega)
                      have l2' : ¬ (mm : Int) ≤ (k : Int) := by omega
                      have l2n : decide (mm ≤ k) = false := decide_eq_false hle
                      have l2k : (k : Int) < (mm : Int) := by omega
                      have al := (Below.refl wr.heap.size wr).alloc (Nat.le_refl _) (.cells #[.bool false] 4)
                      have hv1 := hv.keep al
                      have hB1 := hb.trans (al.mono hb.size)
                      have lv := fun g hg => (hv.lt g hg).1
                      clear hv hb
                      go_wp2_with (at_builtin; refine wpList_append_newX _ rfl _ _ 79 rfl w.heap.size 4 1 (.bool false) rfl Tryd.underlying79 infoB1 _ _ rfl hv1 _ 1 (.bool false) rfl rfl (cell_new1 _ _ _ _) (by rw [List.length_map]; omega) (by rw [List.length_map]; omega) hB1.size ?_)
                      intro v' w2 hv2 hg2 ho2
                      have hB2 := hB1.grown hg2 hB1.size lv
                      clear hv1 hg2 ho2 hB1 lv
                      go_wp2_with fail
                      go_roundw
                      case rel =>
                        refine ⟨j, mm - k, nn - k, L ++ [false], by go_num, by go_num, by simp, by rw [List.map_append]; exact hv2, ?_, by omega, by omega, by have := HK.out; have := pow2_succ j; omega, by omega, hB2⟩
                        rw [← HL.out, waysH_right HNH.out (by omega) (by rw [← HK.out]; exact hkn) hnk (by rw [← HK.out]; exact hle), ← HK.out]
                        simp
                      case measure => simp [intOf]; omega
                  · obtain rfl : mm = nn := by omega
                    have EL : L = WS := by rw [← HL.out, waysH_same, List.append_nil]
                    subst EL
                    obtain ⟨aL, cL, rfl⟩ := hv.sl
                    rw [List.length_map] at hv ⊢
                    obtain ⟨Y, hY⟩ : ∃ y, y = L.length := ⟨_, rfl⟩
                    have HYY := Lib.hid hY
                    rw [← hY] at hv ⊢
                    have hY63 : Y ≤ 63 := by omega
                    have l1 : decide ((mm : Int) < (mm : Int)) = false := decide_eq_false (by omega)
                    obtain ⟨S, hS⟩ : ∃ s, s = L.reverse := ⟨_, rfl⟩
                    have HS := Lib.hid hS
                    clear hY hS
                    cases wA with
                    | true =>
                      have SH : Hid (shownW pairD L true old p = if z = Y then some (upW pairD S (old, old) p) else none) := Lib.hid (by
                        unfold shownW
                        rw [← HWA.out, Bool.and_self, if_pos rfl, ← HZ.out, ← HYY.out, ← HS.out])
                      by_cases hzY : z = Y
                      · have EQ2 : Hid (decide (growP old (N : Int) root (M : Int) p) = decide (upW pairD S (old, old) p = (old, root))) := Lib.hid (by
                          rw [EQ.out, SH.out, if_pos hzY]
                          exact decide_eq_decide.2 (by simp))
                        have ne : ((z : Int) != (Y : Int)) = false := by subst hzY; simp
                        obtain ⟨T, hT⟩ : ∃ T, T = upW pairD S (old, old) p := ⟨_, rfl⟩
                        rw [← hT] at EQ2
                        have HT := Lib.hid hT
                        clear hT SH
                        have start : Hid ((Y + 0 = Y ∧ 0 + Y = z) ∧ (U8 old ∧ old.length = 32) ∧ upW pairD (S.drop 0) (old, old) (p.drop 0) = T) := Lib.hid ⟨⟨by omega, by omega⟩, ⟨uo, LO.out⟩, by rw [HT.out]; rfl⟩
                        clear hzY
                        go_wp2_with fail
                        clear ne
                        go_loopw [16, 17, 18, 19] (fun sa si sb sj wr => ∃ (s t c : Nat) (x v : List Int), sa = str x ∧ si = .int .i64 (c : Int) ∧ sb = str v ∧ sj = .int .i64 ((s : Int) - 1) ∧ s + t = Y ∧ c + s = z ∧ U8 x ∧ U8 v ∧ x.length = 32 ∧ v.length = 32 ∧ Hid (upW pairD (S.drop t) (x, v) (p.drop c) = T) ∧ NewV w.heap.size 4 wr (.slice aL Y cL) (L.map Value.bool) ∧ Below w.heap.size w wr) (fun _ _ _ sj _ => (intOf sj + 1).toNat)
                        case atStart => exact ⟨Y, 0, 0, old, old, rfl, rfl, rfl, rfl, start.out.1.1, start.out.1.2, start.out.2.1.1, start.out.2.1.1, start.out.2.1.2, start.out.2.1.2, Lib.hid start.out.2.2, hv, hb⟩
                        case round =>
                          obtain ⟨s, t, c, x, v, rfl, rfl, rfl, rfl, hst, hcs, ux, uv, lx, lv, HT2, hvr, hbr⟩ := hrel
                          clear hv hb
                          cases s with
                          | zero =>
                            have en : T = (x, v) := by
                              rw [← HT2.out, List.drop_of_length_le (by rw [HS.out, List.length_reverse, ← HYY.out]; omega), upW_nil]
                            subst en
                            have se := str_eq ux uo
                            have se2 := str_eq uv ur
                            rw [show ((0 : Nat) : Int) - 1 = -1 from rfl]
                            by_cases hx : x = old
                            · have ex : decide (x = old) = true := decide_eq_true hx
                              obtain ⟨R, hR⟩ : ∃ R, R = decide (v = root) := ⟨_, rfl⟩
                              have F : Hid (decide (growP old (N : Int) root (M : Int) p) = R) := Lib.hid (by
                                rw [EQ2.out, hR]
                                exact decide_eq_decide.2 (by simp [hx]))
                              rw [ex] at se
                              rw [← hR] at se2
                              clear hx ex hR
                              go_wp2_with fail
                              go_ret
                              exact ⟨by rw [F.out]; rfl, hbr⟩
                            · have ex : decide (x = old) = false := decide_eq_false hx
                              have F : Hid (decide (growP old (N : Int) root (M : Int) p) = false) := Lib.hid (by
                                rw [EQ2.out]
                                exact decide_eq_false (by simp [hx]))
                              rw [ex] at se
                              clear hx ex
                              go_wp2_with fail
                              go_ret
                              exact ⟨by rw [F.out]; rfl, hbr⟩
                          | succ s =>
                            rw [show ((s + 1 : Nat) : Int) - 1 = (s : Int) by omega]
                            have hsL : s < L.length := by rw [← HYY.out]; omega
                            obtain ⟨gL, ea, _, hcl⟩ := hvr.cell s (by rw [List.length_map]; exact hsL)
                            subst ea
                            rw [List.getElem_map] at hcl
                            obtain ⟨bj, hbj⟩ : ∃ b, b = L[s] := ⟨_, rfl⟩
                            rw [← hbj] at hcl
                            have ed1 : Hid (S.drop t = bj :: S.drop (t + 1)) := Lib.hid (by
                              have e1 : t < S.length := by rw [HS.out, List.length_reverse, ← HYY.out]; omega
                              rw [List.drop_eq_getElem_cons e1]
                              congr 1
                              simp only [HS.out, List.getElem_reverse, hbj]
                              congr 1
                              have := HYY.out
                              omega)
                            obtain ⟨b, off, eA, hcc⟩ := (hp.below hbr).at_ (by rw [← HZ.out]; omega)
                            try subst eA
                            try cases eA
                            have ck2 := hcc c (by rw [← HZ.out]; omega)
                            obtain ⟨q, hq⟩ : ∃ q, q = p[c]'(by rw [← HZ.out]; omega) := ⟨_, rfl⟩
                            have hmem2 : q ∈ p := by rw [hq]; exact List.getElem_mem _
                            rw [← hq] at ck2
                            have uq := hp.u8 q hmem2
                            have lq := HALL.out q hmem2
                            have ed2 : Hid (p.drop c = q :: p.drop (c + 1)) := Lib.hid (by rw [hq]; exact List.drop_eq_getElem_cons (by rw [← HZ.out]; omega))
                            have cz : (c : Int) < (z : Int) := by omega
                            have sY : (s : Int) < (Y : Int) := by omega
                            have HT3 : Hid (upW pairD (S.drop (t + 1)) (stepW pairD (x, v) bj q) (p.drop (c + 1)) = T) := Lib.hid (by rw [← HT2.out, ed1.out, ed2.out]; rfl)
                            clear hcc hq hbj HT2 ed1 ed2 hsL
                            cases bj with
                            | true =>
                              have c1 := rPair_c v q wr uv uq (by omega) (ht.below hbr)
                              go_wp2_with fail
                              refine c1.mono ?_; rintro e_ w3 ⟨rfl, hb3⟩
                              have hv3 := hvr.keep hb3
                              have hB3 := hbr.trans (hb3.mono hbr.size)
                              clear c1 hb3 hvr hbr
                              go_wp2_with fail
                              go_roundw
                              case rel => exact ⟨s, t + 1, c + 1, x, pairD v q, rfl, by go_num, rfl, by go_num, by omega, by omega, ux, (shaD_dig _).2, lx, (shaD_dig _).1, HT3, hv3, hB3⟩
                              case measure => simp [intOf]
                            | false =>
                              have c1 := rPair_c q x wr uq ux (by omega) (ht.below hbr)
                              go_wp2_with fail
                              refine c1.mono ?_; rintro e_ w3 ⟨rfl, hb3⟩
                              have hv3 := hvr.keep hb3
                              have hB3 := hbr.trans (hb3.mono hbr.size)
                              have c2 := rPair_c q v w3 uq uv (by omega) (ht.below hB3)
                              have ck3 : w3.cell? ⟨b, off + c, none⟩ = some (str q) := by rw [World.cell?_of_block (w := wr) (hb3.block b (World.block_lt_of_cell? _ _ ck2))]; exact ck2
                              clear c1 hb3 hvr hbr ck2
                              go_wp2_with fail
                              refine c2.mono ?_; rintro e_ w4 ⟨rfl, hb4⟩
                              have hv4 := hv3.keep hb4
                              have hB4 := hB3.trans (hb4.mono hB3.size)
                              clear c2 hb4 hv3 hB3
                              go_wp2_with fail
                              go_roundw
                              case rel => exact ⟨s, t + 1, c + 1, pairD q x, pairD q v, rfl, by go_num, rfl, by go_num, by omega, by omega, (shaD_dig _).2, (shaD_dig _).2, (shaD_dig _).1, (shaD_dig _).1, HT3, hv4, hB4⟩
                              case measure => simp [intOf]
                      · have ne : ((z : Int) != (Y : Int)) = true := by simp; omega
                        go_wp2_with fail
                        go_ret
                        exact ⟨by rw [EQ.out, SH.out, if_neg hzY]; rfl, hb⟩
                    | false =>
                      by_cases hz0 : z = 0
                      · have z0 : ((z : Int) == 0) = true := by simp; omega
                        have SH : Hid (shownW pairD L true old p = none) := Lib.hid (by
                          have e0 : p = [] := List.length_eq_zero_iff.1 (by rw [← HZ.out]; exact hz0)
                          unfold shownW
                          rw [← HWA.out, Bool.and_false, if_neg (by simp), e0])
                        go_wp2_with fail
                        go_ret
                        exact ⟨by rw [EQ.out, SH.out]; rfl, hb⟩
                      · have z0 : ((z : Int) == 0) = false := by simp; omega
                        obtain ⟨q0, hq0⟩ : ∃ q, q = p[0]'(by rw [← HZ.out]; omega) := ⟨_, rfl⟩
                        have hmem : q0 ∈ p := by rw [hq0]; exact List.getElem_mem _
                        obtain ⟨b, off, rfl, hcc⟩ := (hp.below hb).at_ (by rw [← HZ.out]; omega)
                        have ck := hcc 0 (by rw [← HZ.out]; omega)
                        rw [← hq0] at ck
                        have e0 : Hid (p = q0 :: p.drop 1) := Lib.hid (by rw [hq0]; exact (List.drop_eq_getElem_cons (l := p) (i := 0) (by rw [← HZ.out]; omega)))
                        have SH : Hid (shownW pairD L true old p = if z - 1 = Y then some (upW pairD S (q0, q0) (p.drop 1)) else none) := Lib.hid (by
                          have e1 : (p.drop 1).length = z - 1 := by rw [List.length_drop, ← HZ.out]
                          unfold shownW
                          rw [← HWA.out, Bool.and_false, if_neg (by simp), e0.out]
                          simp only [List.drop_succ_cons, List.drop_zero]
                          rw [e1, ← HYY.out, ← HS.out])
                        have uq0 := hp.u8 q0 hmem
                        have lq0 := HALL.out q0 hmem
                        have zp : 0 < z := by omega
                        have zp2 : (0 : Int) < (z : Int) := by omega
                        have zp3 : (1 : Int) ≤ (z : Int) := by omega
                        clear hq0 hcc
                        rw [Nat.add_zero] at ck
                        by_cases hzY : z - 1 = Y
                        · have EQ2 : Hid (decide (growP old (N : Int) root (M : Int) p) = decide (upW pairD S (q0, q0) (p.drop 1) = (old, root))) := Lib.hid (by
                            rw [EQ.out, SH.out, if_pos hzY]
                            exact decide_eq_decide.2 (by simp))
                          have ne : ((z : Int) - 1 != (Y : Int)) = false := by simp; omega
                          obtain ⟨T, hT⟩ : ∃ T, T = upW pairD S (q0, q0) (p.drop 1) := ⟨_, rfl⟩
                          rw [← hT] at EQ2
                          have HT := Lib.hid hT
                          clear hT SH
                          have start : Hid ((Y + 0 = Y ∧ 1 + Y = z) ∧ (U8 q0 ∧ q0.length = 32) ∧ upW pairD (S.drop 0) (q0, q0) (p.drop 1) = T) := Lib.hid ⟨⟨by omega, by omega⟩, ⟨uq0, lq0⟩, by rw [HT.out]; rfl⟩
                          clear hzY
                          go_wp2_with fail
                          clear ne
                          go_loopw [16, 17, 18, 19] (fun sa si sb sj wr => ∃ (s t c : Nat) (x v : List Int), sa = str x ∧ si = .int .i64 (c : Int) ∧ sb = str v ∧ sj = .int .i64 ((s : Int) - 1) ∧ s + t = Y ∧ c + s = z ∧ U8 x ∧ U8 v ∧ x.length = 32 ∧ v.length = 32 ∧ Hid (upW pairD (S.drop t) (x, v) (p.drop c) = T) ∧ NewV w.heap.size 4 wr (.slice aL Y cL) (L.map Value.bool) ∧ Below w.heap.size w wr) (fun _ _ _ sj _ => (intOf sj + 1).toNat)
                          case atStart => exact ⟨Y, 0, 1, q0, q0, rfl, rfl, rfl, rfl, start.out.1.1, start.out.1.2, start.out.2.1.1, start.out.2.1.1, start.out.2.1.2, start.out.2.1.2, Lib.hid start.out.2.2, hv, hb⟩
                          case round =>
                            obtain ⟨s, t, c, x, v, rfl, rfl, rfl, rfl, hst, hcs, ux, uv, lx, lv, HT2, hvr, hbr⟩ := hrel
                            clear hv hb
                            cases s with
                            | zero =>
                              have en : T = (x, v) := by
                                rw [← HT2.out, List.drop_of_length_le (by rw [HS.out, List.length_reverse, ← HYY.out]; omega), upW_nil]
                              subst en
                              have se := str_eq ux uo
                              have se2 := str_eq uv ur
                              rw [show ((0 : Nat) : Int) - 1 = -1 from rfl]
                              by_cases hx : x = old
                              · have ex : decide (x = old) = true := decide_eq_true hx
                                obtain ⟨R, hR⟩ : ∃ R, R = decide (v = root) := ⟨_, rfl⟩
                                have F : Hid (decide (growP old (N : Int) root (M : Int) p) = R) := Lib.hid (by
                                  rw [EQ2.out, hR]
                                  exact decide_eq_decide.2 (by simp [hx]))
                                rw [ex] at se
                                rw [← hR] at se2
                                clear hx ex hR
                                go_wp2_with fail
                                go_ret
                                exact ⟨by rw [F.out]; rfl, hbr⟩
                              · have ex : decide (x = old) = false := decide_eq_false hx
                                have F : Hid (decide (growP old (N : Int) root (M : Int) p) = false) := Lib.hid (by
                                  rw [EQ2.out]
                                  exact decide_eq_false (by simp [hx]))
                                rw [ex] at se
                                clear hx ex
                                go_wp2_with fail
                                go_ret
                                exact ⟨by rw [F.out]; rfl, hbr⟩
                            | succ s =>
                              rw [show ((s + 1 : Nat) : Int) - 1 = (s : Int) by omega]
                              have hsL : s < L.length := by rw [← HYY.out]; omega
                              obtain ⟨gL, ea, _, hcl⟩ := hvr.cell s (by rw [List.length_map]; exact hsL)
                              subst ea
                              rw [List.getElem_map] at hcl
                              obtain ⟨bj, hbj⟩ : ∃ b, b = L[s] := ⟨_, rfl⟩
                              rw [← hbj] at hcl
                              have ed1 : Hid (S.drop t = bj :: S.drop (t + 1)) := Lib.hid (by
                                have e1 : t < S.length := by rw [HS.out, List.length_reverse, ← HYY.out]; omega
                                rw [List.drop_eq_getElem_cons e1]
                                congr 1
                                simp only [HS.out, List.getElem_reverse, hbj]
                                congr 1
                                have := HYY.out
                                omega)
                              obtain ⟨b, off, eA, hcc⟩ := (hp.below hbr).at_ (by rw [← HZ.out]; omega)
                              try subst eA
                              try cases eA
                              have ck2 := hcc c (by rw [← HZ.out]; omega)
                              obtain ⟨q, hq⟩ : ∃ q, q = p[c]'(by rw [← HZ.out]; omega) := ⟨_, rfl⟩
                              have hmem2 : q ∈ p := by rw [hq]; exact List.getElem_mem _
                              rw [← hq] at ck2
                              have uq := hp.u8 q hmem2
                              have lq := HALL.out q hmem2
                              have ed2 : Hid (p.drop c = q :: p.drop (c + 1)) := Lib.hid (by rw [hq]; exact List.drop_eq_getElem_cons (by rw [← HZ.out]; omega))
                              have cz : (c : Int) < (z : Int) := by omega
                              have sY : (s : Int) < (Y : Int) := by omega
                              have HT3 : Hid (upW pairD (S.drop (t + 1)) (stepW pairD (x, v) bj q) (p.drop (c + 1)) = T) := Lib.hid (by rw [← HT2.out, ed1.out, ed2.out]; rfl)
                              clear hcc hq hbj HT2 ed1 ed2 hsL
                              cases bj with
                              | true =>
                                have c1 := rPair_c v q wr uv uq (by omega) (ht.below hbr)
                                go_wp2_with fail
                                refine c1.mono ?_; rintro e_ w3 ⟨rfl, hb3⟩
                                have hv3 := hvr.keep hb3
                                have hB3 := hbr.trans (hb3.mono hbr.size)
                                clear c1 hb3 hvr hbr
                                go_wp2_with fail
                                go_roundw
                                case rel => exact ⟨s, t + 1, c + 1, x, pairD v q, rfl, by go_num, rfl, by go_num, by omega, by omega, ux, (shaD_dig _).2, lx, (shaD_dig _).1, HT3, hv3, hB3⟩
                                case measure => simp [intOf]
                              | false =>
                                have c1 := rPair_c q x wr uq ux (by omega) (ht.below hbr)
                                go_wp2_with fail
                                refine c1.mono ?_; rintro e_ w3 ⟨rfl, hb3⟩
                                have hv3 := hvr.keep hb3
                                have hB3 := hbr.trans (hb3.mono hbr.size)
                                have c2 := rPair_c q v w3 uq uv (by omega) (ht.below hB3)
                                have ck3 : w3.cell? ⟨b, off + c, none⟩ = some (str q) := by rw [World.cell?_of_block (w := wr) (hb3.block b (World.block_lt_of_cell? _ _ ck2))]; exact ck2
                                clear c1 hb3 hvr hbr ck2
                                go_wp2_with fail
                                refine c2.mono ?_; rintro e_ w4 ⟨rfl, hb4⟩
                                have hv4 := hv3.keep hb4
                                have hB4 := hB3.trans (hb4.mono hB3.size)
                                clear c2 hb4 hv3 hB3
                                go_wp2_with fail
                                go_roundw
                                case rel => exact ⟨s, t + 1, c + 1, pairD q x, pairD q v, rfl, by go_num, rfl, by go_num, by omega, by omega, (shaD_dig _).2, (shaD_dig _).2, (shaD_dig _).1, (shaD_dig _).1, HT3, hv4, hB4⟩
                                case measure => simp [intOf]
                        · have ne : ((z : Int) - 1 != (Y : Int)) = true := by simp; omega
                          go_wp2_with fail
                          go_ret
                          exact ⟨by rw [EQ.out, SH.out, if_neg hzY]; rfl, hb⟩
        · have g2 : ((root.length : Int) != 32) = true := by simp; omega
          go_enter Tryd.func25, Tryd.ntmps25
          go_wp2_with fail
          go_ret
          exact no (fun h => h2 h.1.2) rfl rfl
      · have g1 : ((old.length : Int) != 32) = true := by simp; omega
        go_enter Tryd.func25, Tryd.ntmps25
        go_wp2_with fail
        go_ret
        exact no (fun h => h1 h.1.1) rfl rfl
    · have g4 : decide (m < n) = true := decide_eq_true (by omega)
      have g4' : m < n := by omega
      go_enter Tryd.func25, Tryd.ntmps25
      go_wp2_with fail
      go_ret
      exact no (fun h => by have := h.2.2.2.1; omega) rfl rfl
  · have g3 : decide (n < 0) = true := decide_eq_true (by omega)
    have g3' : n < 0 := by omega
    go_enter Tryd.func25, Tryd.ntmps25
    go_wp2_with fail
    go_ret
    exact no (fun h => by have := h.2.2.1; omega) rfl rfl
end Go.Proofs.YtmbifokiebjmmaaDoor
