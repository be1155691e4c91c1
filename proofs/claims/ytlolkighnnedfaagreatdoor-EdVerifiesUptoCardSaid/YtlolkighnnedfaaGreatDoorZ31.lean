import Derived.Test.YtlolkighnnedfaaGreatDoorZ30
import Derived.Test.YtlolkighnnedfaaGreatDoorZ11
import Derived.Test.YtlolkighnnedfaaGreatDoorZ1
/- signetref7: rest, wrong, Exp, by their contracts. -/
set_option linter.unusedVariables false
set_option linter.unusedSimpArgs false
namespace Go.Proofs.YtlolkighnnedfaaGreatDoor
open Go.RowKit Go.Sg

section
variable {v v' : Value} {n m : Nat} {W : World}
theorem trim_v (h : NumAt W v n) : Calls Tryz.prog 72 #[v] W (NatPost n W) := by
  obtain ⟨a, c, zs, rfl, s, u, rfl, hl⟩ := h
  exact trim_c _ _ _ _ s u (by omega)
theorem times_v (h : NumAt W v n) (h' : NumAt W v' m) : Calls Tryz.prog 76 #[v, v'] W (NatPost (n * m) W) := by
  obtain ⟨a, c, zs, rfl, s, u, rfl, hl⟩ := h
  obtain ⟨a', c', zs', rfl, s', u', rfl, hl'⟩ := h'
  exact times7_c _ _ _ _ _ _ _ s s' u u' (by omega) (by omega)
theorem divide_v (h : NumAt W v n) (h' : NumAt W v' m) (h0 : 0 < m) : Calls Tryz.prog 26 #[v, v'] W (Div7Post n m W) := by
  obtain ⟨a, c, zs, rfl, s, u, rfl, hl⟩ := h
  obtain ⟨a', c', zs', rfl, s', u', rfl, hl'⟩ := h'
  exact divide7_c _ _ _ _ _ _ _ s s' u u' (by omega) (by omega) h0
theorem cmp7_v (h : NumAt W v n) (h' : NumAt W v' m) : Calls Tryz.prog 24 #[v, v'] W (RCmpPost (cmpI n m) W) := by
  obtain ⟨a, c, zs, rfl, s, u, rfl, hl⟩ := h
  obtain ⟨a', c', zs', rfl, s', u', rfl, hl'⟩ := h'
  exact cmp7_c _ _ _ _ _ _ _ s s' u u'
theorem bit7_v (h : NumAt W v n) (i : Nat) (hi : i ≤ 9223372036854775807) : Calls Tryz.prog 71 #[v, .int .i64 (i : Int)] W fun e w' => e = .returned (.bool (decide (n / 2 ^ i % 2 = 1))) ∧ W = w' := by
  obtain ⟨a, c, zs, rfl, s, u, rfl, hl⟩ := h
  exact bit7_c _ _ _ _ _ s u hi
end
end Go.Proofs.YtlolkighnnedfaaGreatDoor
/- signetref7: Plus, Minus, by their contracts. (Minus is printed by gen_ref7p.py.) -/
set_option linter.unusedVariables false
set_option linter.unusedSimpArgs false
namespace Go.Proofs.YtlolkighnnedfaaGreatDoor
open Go.RowKit Go.Sg
set_option maxHeartbeats 2000000 in
theorem plus7_c (a a' : Option Addr) (cap cap' : Nat) (xs ys : List Int) (w : World) (hx : Sl .u32 w a cap xs) (hy : Sl .u32 w a' cap' ys) (ux : U32 xs) (uy : U32 ys) (hl : xs.length ≤ 17592186044415) (hl' : ys.length ≤ 17592186044415) :
    Calls Tryz.prog 68 #[.slice a xs.length cap, .slice a' ys.length cap'] w (NatPost (val xs + val ys) w) := by
  obtain ⟨m, hm⟩ : ∃ m, m = max xs.length ys.length := ⟨_, rfl⟩
  have g1 : xs.length ≤ m := by omega
  have g2 : ys.length ≤ m := by omega
  have hml : m ≤ 17592186044415 := by omega
  have HM : Hid (max (xs.length : Int) (ys.length : Int) = (m : Int)) := Lib.hid (by omega)
  have hmx : max (xs.length : Int) (ys.length : Int) ≤ 9223372036854775807 := by omega
  have hmn : 0 ≤ max (xs.length : Int) (ys.length : Int) := by omega
  have G1 := Lib.hid g1
  have G2 := Lib.hid g2
  have HML := Lib.hid hml
  clear hm g1 g2 hml
  go_enter Tryz.func68, Tryz.ntmps68
  go_wp2_with fail
  go_loopw [5, 6, 7] (fun v c t wr => ∃ (i cn : Nat) (L : List Int), t = .int .i64 (i : Int) ∧ c = .int .u64 (cn : Int) ∧ cn ≤ 1 ∧ New w.heap.size .u32 64 wr v L ∧ L.length = i ∧ i ≤ m + 1 ∧ U32 L ∧
      val L + R ^ i * cn = val (xs.take i) + val (ys.take i) ∧ Below w.heap.size w wr)
    (fun _ _ t _ => m + 1 - (intOf t).toNat)
  case atStart => exact ⟨0, 0, [], rfl, rfl, by omega, .nil _ _ _ _, rfl, by omega, .nil (by omega), by simp [val], .refl _ _⟩
  case round =>
    obtain ⟨i, cn, L, rfl, rfl, hcn, hL, hLl, him, uL, hval, hb⟩ := hrel
    have HL := Lib.hid hLl
    have HV := Lib.hid hval
    have HI := Lib.hid him
    have hil : i ≤ 17592186044416 := by have := HML.out; omega
    have hbs := hb.size
    clear hLl hval him
    by_cases hgo : i ≤ m
    · have hx1 := hx.below (w' := wr) (hb.mono (Nat.le_refl _))
      have hy1 := hy.below (w' := wr) (hb.mono (Nat.le_refl _))
      have hxl := lb_lt ux i
      have hyl := lb_lt uy i
      have XC := Lib.hid (lb_cast ux i)
      have YC := Lib.hid (lb_cast uy i)
      have hxi : ((lb xs i : Nat) : Int) ≤ 4294967295 := by unfold R at hxl; omega
      have hyi : ((lb ys i : Nat) : Int) ≤ 4294967295 := by unfold R at hyl; omega
      have hcni : (cn : Int) ≤ 1 := by omega
      obtain ⟨s, hs⟩ : ∃ s, s = cn + lb xs i + lb ys i := ⟨_, rfl⟩
      have s0 : Hid (bits .and .u64 (((lb xs i : Nat) : Int) + (lb ys i : Nat) + (cn : Int)) 4294967295 % 4294967296 = ((s % R : Nat) : Int)) := Lib.hid (by rw [and_low32 _ (by omega) (by omega)]; unfold R; omega)
      have s1 : Hid ((((lb xs i : Nat) : Int) + (lb ys i : Nat) + (cn : Int)) / 4294967296 = ((s / R : Nat) : Int)) := Lib.hid (by unfold R; omega)
      have HSR : Hid (s / R ≤ 1) := Lib.hid (by rw [hs]; unfold R at hxl hyl ⊢; omega)
      have fin : Hid (val (L ++ [((s % R : Nat) : Int)]) + R ^ (i + 1) * (s / R) = val (xs.take (i + 1)) + val (ys.take (i + 1))) := Lib.hid (by
        rw [val_snoc, HL.out, val_take_next, val_take_next, Rpow_next, Int.toNat_natCast, hs]
        exact add_step HV.out)
      have hgo2 := Lib.hid hgo
      have hd0 : decide ((i : Int) ≤ max (xs.length : Int) (ys.length : Int)) = true := decide_eq_true (by rw [HM.out]; omega)
      have lx := limb7_c a cap i xs wr hx1 ux (by omega)
      have ly := limb7_c a' cap' i ys wr hy1 uy (by omega)
      clear hxl hyl hs hgo
      go_wp2_with fail
      refine lx.mono ?_; rintro e w' ⟨rfl, rfl⟩
      rw [← XC.out]
      go_wp2_with fail
      refine ly.mono ?_; rintro e w' ⟨rfl, rfl⟩
      rw [← YC.out]
      have cone := cells_one .u32 wr 64 ((s % R : Nat) : Int) _ rfl
      rw [← s0.out] at cone
      go_wp2_with (at_builtin; refine wpList_append_new _ rfl _ _ 29 rfl w.heap.size 64 .u32 4 Tryz.underlying29 info32 _ _ rfl (hL.alloc _) _ _ 1 _ rfl rfl cone (by rw [HL.out]; simp; omega) (by rw [HL.out]; simp; omega) (by simp; omega) ?_)
      intro v' w' hv' hg _
      have hb' : Below w.heap.size w w' := (hb.alloc (by omega) _).grown hg (by simp; omega) fun g hg => (hL.lt g hg).1
      have hlen' : Hid ((L ++ [((s % R : Nat) : Int)]).length = i + 1) := Lib.hid (by rw [List.length_append, HL.out]; rfl)
      have uu : U32 (L ++ [((s % R : Nat) : Int)]) := uL.append (by omega) (.one (by omega) (by unfold R; omega))
      rw [s0.out] at hv'
      clear hL hb hg hbs cone hx1 hy1
      go_wp2_with fail
      go_roundw
      case rel => exact ⟨i + 1, s / R, _, by go_num, by rw [s1.out], HSR.out, hv', hlen'.out, by have := hgo2.out; omega, uu, fin.out, hb'⟩
      case measure => have := hgo2.out; simp [intOf]; omega
    · have him1 : i = m + 1 := by have := HI.out; omega
      have hd0 : decide ((i : Int) ≤ max (xs.length : Int) (ys.length : Int)) = false := decide_eq_false (by rw [HM.out]; omega)
      have hvv : Hid (val L = val xs + val ys) := Lib.hid (by
        have h := HV.out
        have g1 := G1.out
        have g2 := G2.out
        rw [List.take_of_length_le (by omega), List.take_of_length_le (by omega)] at h
        have h1 := val_lt ux
        have h2 := val_lt uy
        have h3 : R ^ xs.length ≤ R ^ m := Nat.pow_le_pow_right R_pos g1
        have h4 : R ^ ys.length ≤ R ^ m := Nat.pow_le_pow_right R_pos g2
        have h5 : R ^ i = R * R ^ m := by rw [him1, Rpow_succ]
        have hc0 : cn = 0 := by
          rcases (show cn = 0 ∨ cn = 1 by omega) with hh | hh
          · exact hh
          · rw [hh, h5, Nat.mul_one] at h
            have : 2 * R ^ m ≤ R * R ^ m := Nat.mul_le_mul_right _ (by decide)
            omega
        rw [hc0] at h
        simpa using h)
      obtain ⟨a1, c1, rfl, hs1⟩ := hL.sl
      have pc := trim_c _ _ _ _ hs1 uL (by rw [HL.out]; omega)
      rw [hvv.out] at pc
      clear hgo him1
      go_wp2_with fail
      refine pc.mono ?_; rintro e w1 ⟨v1, rfl, hn1, hb1⟩
      go_wp2_with fail
      go_ret
      exact ⟨_, rfl, hn1.mono hbs, hb.trans (hb1.mono hbs)⟩
set_option maxHeartbeats 2000000 in
theorem minus7_c (a a' : Option Addr) (cap cap' : Nat) (xs ys : List Int) (w : World) (hx : Sl .u32 w a cap xs) (hy : Sl .u32 w a' cap' ys) (ux : U32 xs) (uy : U32 ys) (hge : val ys ≤ val xs) (hl : xs.length ≤ 17592186044416) (hl' : ys.length ≤ 17592186044416) :
    Calls Tryz.prog 29 #[.slice a xs.length cap, .slice a' ys.length cap'] w (NatPost (val xs - val ys) w) := by
  have HLT := Lib.hid (Nat.not_lt.2 hge)
  clear hge
  go_enter Tryz.func29, Tryz.ntmps29
  go_wp2_with fail
  go_loopw [5, 6, 7, 8, 9] (fun v c t _ _ wr => ∃ (i b : Nat) (L : List Int), t = .int .i64 (i : Int) ∧ c = .int .u64 (b : Int) ∧ b ≤ 1 ∧ New w.heap.size .u32 64 wr v L ∧ L.length = i ∧ i ≤ xs.length ∧ U32 L ∧
      val L + val (ys.take i) = val (xs.take i) + R ^ i * b ∧ Below w.heap.size w wr)
    (fun _ _ t _ _ _ => xs.length - (intOf t).toNat)
  case atStart => exact ⟨0, 0, [], rfl, rfl, by omega, .nil _ _ _ _, rfl, by omega, .nil (by omega), by simp [val], .refl _ _⟩
  case round =>
    obtain ⟨i, b, L, rfl, rfl, hb1, hL, hLl, him, uL, hval, hb⟩ := hrel
    have HL := Lib.hid hLl
    have HV := Lib.hid hval
    have hmx : i ≤ 17592186044416 := by omega
    have hbs := hb.size
    clear hLl hval
    by_cases hgo : i < xs.length
    · have hx1 := hx.below (w' := wr) (hb.mono (Nat.le_refl _))
      have hy1 := hy.below (w' := wr) (hb.mono (Nat.le_refl _))
      have hxl := lb_lt ux i
      have hyl := lb_lt uy i
      have XC := Lib.hid (lb_cast ux i)
      have YC := Lib.hid (lb_cast uy i)
      obtain ⟨x, hxe⟩ : ∃ x, x = lb xs i := ⟨_, rfl⟩
      obtain ⟨y, hye⟩ : ∃ y, y = lb ys i := ⟨_, rfl⟩
      rw [← hxe] at XC hxl
      rw [← hye] at YC hyl
      have HX := Lib.hid hxe
      have HY := Lib.hid hye
      have hxi : (x : Int) ≤ 4294967295 := by unfold R at hxl; omega
      have hyi : (y : Int) ≤ 4294967295 := by unfold R at hyl; omega
      have hbi : (b : Int) ≤ 1 := by omega
      have fin : ∀ d b' : Nat, d + y + b = x + R * b' → d < R → b' ≤ 1 →
          U32 (L ++ [(d : Int)]) ∧ val (L ++ [(d : Int)]) + val (ys.take (i + 1)) = val (xs.take (i + 1)) + R ^ (i + 1) * b' := by
        intro d b' hd hdR hb'
        refine ⟨uL.append (by omega) (.one (by omega) (by unfold R at hdR; omega)), ?_⟩
        rw [val_snoc, HL.out, val_take_next, val_take_next, Rpow_next, Int.toNat_natCast, ← HX.out, ← HY.out]
        exact sub_step HV.out hd
      have FIN := Lib.hid fin
      clear fin hxe hye
      go_wp2_with fail
      refine (limb7_c a cap i xs _ hx1 ux (by omega)).mono ?_; rintro e w' ⟨rfl, rfl⟩
      rw [← XC.out]
      go_wp2_with fail
      refine (limb7_c a' cap' i ys _ hy1 uy (by omega)).mono ?_; rintro e w' ⟨rfl, rfl⟩
      rw [← YC.out]
      by_cases hbr : x < y + b
      · obtain ⟨d, hd⟩ : ∃ d : Nat, d = x + 4294967296 - (y + b) := ⟨_, rfl⟩
        have hdd : ((x : Int) + 4294967296 - ((y : Int) + (b : Int))) = (d : Int) := by omega
        have hd32 : (d : Int) % 4294967296 = (d : Int) := by unfold R at hyl; omega
        have F := Lib.hid (FIN.out d 1 (by unfold R; omega) (by unfold R; omega) (by omega))
        have hd0 : d ≤ 4294967295 := by omega
        clear hd hxl hyl
        have cone := cells_one .u32 wr 64 (d : Int) _ rfl
        go_wp2_with (at_builtin; refine wpList_append_new _ rfl _ _ 29 rfl w.heap.size 64 .u32 4 Tryz.underlying29 info32 _ _ rfl (hL.alloc _) _ _ 1 _ rfl rfl cone (by rw [HL.out]; simp; omega) (by rw [HL.out]; simp; omega) (by simp; omega) ?_)
        intro v' w' hv' hg _
        have hb' : Below w.heap.size w w' := (hb.alloc (by omega) _).grown hg (by simp; omega) fun g hg => (hL.lt g hg).1
        have hlen' : Hid ((L ++ [(d : Int)]).length = i + 1) := Lib.hid (by rw [List.length_append, HL.out]; rfl)
        clear hL hb hg hbs cone hx1 hy1
        go_wp2_with fail
        go_roundw
        case rel => exact ⟨i + 1, 1, _, by go_num, rfl, by omega, hv', hlen'.out, by omega, F.out.1, F.out.2, hb'⟩
        case measure => simp [intOf]; omega
      · obtain ⟨d, hd⟩ : ∃ d : Nat, d = x - (y + b) := ⟨_, rfl⟩
        have hdd : ((x : Int) - ((y : Int) + (b : Int))) = (d : Int) := by omega
        have hd32 : (d : Int) % 4294967296 = (d : Int) := by unfold R at hxl; omega
        have F := Lib.hid (FIN.out d 0 (by omega) (by unfold R at hxl ⊢; omega) (by omega))
        have hd0 : d ≤ 4294967295 := by omega
        clear hd hxl hyl
        have cone := cells_one .u32 wr 64 (d : Int) _ rfl
        go_wp2_with (at_builtin; refine wpList_append_new _ rfl _ _ 29 rfl w.heap.size 64 .u32 4 Tryz.underlying29 info32 _ _ rfl (hL.alloc _) _ _ 1 _ rfl rfl cone (by rw [HL.out]; simp; omega) (by rw [HL.out]; simp; omega) (by simp; omega) ?_)
        intro v' w' hv' hg _
        have hb' : Below w.heap.size w w' := (hb.alloc (by omega) _).grown hg (by simp; omega) fun g hg => (hL.lt g hg).1
        have hlen' : Hid ((L ++ [(d : Int)]).length = i + 1) := Lib.hid (by rw [List.length_append, HL.out]; rfl)
        clear hL hb hg hbs cone hx1 hy1
        go_wp2_with fail
        go_roundw
        case rel => exact ⟨i + 1, 0, _, by go_num, rfl, by omega, hv', hlen'.out, by omega, F.out.1, F.out.2, hb'⟩
        case measure => simp [intOf]; omega
    · obtain rfl : i = xs.length := by omega
      have hvv : Hid (val L = val xs - val ys) := Lib.hid (by
        have h := HV.out
        rw [List.take_length] at h
        have h1 := val_lt ux
        have h2 := val_lt uL
        rw [HL.out] at h2
        have h3 := Nat.not_lt.1 HLT.out
        have h5 := val_split ys (min xs.length ys.length) (by omega)
        have h6 : val (ys.take (min xs.length ys.length)) = val (ys.take xs.length) := by
          by_cases hh : xs.length ≤ ys.length
          · rw [Nat.min_eq_left hh]
          · rw [Nat.min_eq_right (by omega), List.take_length, List.take_of_length_le (by omega)]
        rw [h6] at h5
        have h7 : R ^ (min xs.length ys.length) * val (ys.drop (min xs.length ys.length)) = 0 := by
          by_cases hh : xs.length ≤ ys.length
          · rw [Nat.min_eq_left hh] at h5 ⊢
            rcases Nat.eq_zero_or_pos (val (ys.drop xs.length)) with h0 | h0
            · rw [h0, Nat.mul_zero]
            · have : R ^ xs.length * 1 ≤ R ^ xs.length * val (ys.drop xs.length) := Nat.mul_le_mul_left _ h0
              omega
          · rw [Nat.min_eq_right (by omega), List.drop_length]; rfl
        rw [h7] at h5
        have hb0 : b = 0 := by
          rcases (show b = 0 ∨ b = 1 by omega) with hh | hh
          · exact hh
          · rw [hh] at h; omega
        rw [hb0] at h
        omega)
      have hlen : L.length ≤ 35184372088832 := by rw [HL.out]; omega
      obtain ⟨a1, c1, rfl, hs1⟩ := hL.sl
      clear hgo
      have pc := trim_c _ _ _ _ hs1 uL hlen
      go_wp2_with fail
      refine pc.mono ?_; rintro e w1 ⟨v1, rfl, hn1, hb1⟩
      rw [hvv.out] at hn1
      go_wp2_with fail
      go_ret
      exact ⟨_, rfl, hn1.mono hbs, hb.trans (hb1.mono hbs)⟩
end Go.Proofs.YtlolkighnnedfaaGreatDoor
