/- signetref6: Sub, times, Mul; signetlaw6.copied, by their contracts. -/
import Derived.Test.YtadldaidbcdaeaaRefD
import Derived.Test.YtadldaidbcdaeaaNatE
set_option linter.unusedVariables false
set_option linter.unusedSimpArgs false
namespace Go.Proofs.Ytadldaidbcdaeaa
open Go.RowKit Go.Sg

set_option maxHeartbeats 1000000 in
theorem copied_c (a : Option Addr) (cap : Nat) (xs : List Int) (w : World) (hx : Sl .u32 w a cap xs) (hl : xs.length ≤ 35184372088832) :
    Calls Try.prog 23 #[.slice a xs.length cap] w (NewPost .u32 52 xs w) := by
  go_enter Try.func23, Try.ntmps23
  go_wp2_with (at_builtin; refine wpList_append_new _ rfl _ _ 30 rfl w.heap.size 52 .u32 4 Try.underlying30 info32 _ [] rfl (New.nil _ _ _ _) _ _ _ xs rfl rfl hx.cells (by simp; omega) (by simp; omega) (Nat.le_refl _) ?_)
  intro v1 w1 hn1 hg1 _
  have hb1 : Below w.heap.size w w1 := (Below.refl _ _).grown hg1 (Nat.le_refl _) fun g hg => by simp [Value.ownBlock] at hg
  clear hg1
  go_wp2_with fail
  go_ret
  exact ⟨_, rfl, hn1, hb1⟩

set_option maxHeartbeats 2000000 in
theorem rSub_c (a a' : Option Addr) (cap cap' : Nat) (xs ys : List Int) (w : World) (hx : Sl .u32 w a cap xs) (hy : Sl .u32 w a' cap' ys) (ux : U32 xs) (uy : U32 ys) (hl : xs.length ≤ 35184372088000) (hl' : ys.length ≤ 35184372088000) :
    Calls Try.prog 28 #[.slice a xs.length cap, .slice a' ys.length cap'] w (SubPost (val xs) (val ys) w) := by
  go_enter Try.func28, Try.ntmps28
  go_wp2_with fail
  refine (rCmp_c a a' cap cap' xs ys _ hx hy ux uy).mono ?_; rintro e w' ⟨rfl, rfl⟩
  by_cases hlt : val xs < val ys
  · rw [cmpI_lt hlt]
    have HLT := Lib.hid hlt
    clear hlt
    go_wp2_with fail
    go_ret2
    exact ⟨fun h => absurd HLT.out (Nat.not_lt.2 h), fun _ => rfl, .refl _ _⟩
  · have hge : ¬ cmpI (val xs) (val ys) < 0 := by unfold cmpI; rw [if_neg hlt]; split <;> omega
    have hrg := cmpI_rng (val xs) (val ys)
    have HLT := Lib.hid hlt
    generalize cmpI (val xs) (val ys) = cc at *
    clear hlt
    go_wp2_with fail
    go_loopw [6, 7, 8, 9, 10] (fun v c t _ _ wr => ∃ (i b : Nat) (L : List Int), t = .int .i64 (i : Int) ∧ c = .int .u64 (b : Int) ∧ b ≤ 1 ∧ New w.heap.size .u32 52 wr v L ∧ L.length = i ∧ i ≤ xs.length ∧ U32 L ∧
        val L + val (ys.take i) = val (xs.take i) + R ^ i * b ∧ Below w.heap.size w wr)
      (fun _ _ t _ _ _ => xs.length - (intOf t).toNat)
    case atStart => exact ⟨0, 0, [], rfl, rfl, by omega, .nil _ _ _ _, rfl, by omega, .nil (by omega), by simp [val], .refl _ _⟩
    case round =>
      obtain ⟨i, b, L, rfl, rfl, hb1, hL, hLl, him, uL, hval, hb⟩ := hrel
      have HL := Lib.hid hLl
      have HV := Lib.hid hval
      have hmx : i ≤ 35184372088000 := by omega
      have hbs := hb.size
      clear hLl hval
      by_cases hgo : i < xs.length
      · have hx1 := hx.below (w' := wr) (hb.mono (Nat.le_refl _))
        have hy1 := hy.below (w' := wr) (hb.mono (Nat.le_refl _))
        have hxl := lb_lt ux i
        have hyl := lb_lt uy i
        have XC := Lib.hid (lb_cast ux i)
        have YC := Lib.hid (lb_cast uy i)
        obtain ⟨x, hxe⟩ : ∃ x, x = lb xs i := ⟨_, rfl⟩
        obtain ⟨y, hye⟩ : ∃ y, y = lb ys i := ⟨_, rfl⟩
        rw [← hxe] at XC hxl
        rw [← hye] at YC hyl
        have HX := Lib.hid hxe
        have HY := Lib.hid hye
        have hxi : (x : Int) ≤ 4294967295 := by unfold R at hxl; omega
        have hyi : (y : Int) ≤ 4294967295 := by unfold R at hyl; omega
        have hbi : (b : Int) ≤ 1 := by omega
        have fin : ∀ d b' : Nat, d + y + b = x + R * b' → d < R → b' ≤ 1 →
            U32 (L ++ [(d : Int)]) ∧ val (L ++ [(d : Int)]) + val (ys.take (i + 1)) = val (xs.take (i + 1)) + R ^ (i + 1) * b' := by
          intro d b' hd hdR hb'
          refine ⟨uL.append (by omega) (.one (by omega) (by unfold R at hdR; omega)), ?_⟩
          rw [val_snoc, HL.out, val_take_next, val_take_next, Rpow_next, Int.toNat_natCast, ← HX.out, ← HY.out]
          exact sub_step HV.out hd
        have FIN := Lib.hid fin
        clear fin hxe hye
        go_wp2_with fail
        refine (rlimb_c a cap i xs _ hx1 ux (by omega)).mono ?_; rintro e w' ⟨rfl, rfl⟩
        rw [← XC.out]
        go_wp2_with fail
        refine (rlimb_c a' cap' i ys _ hy1 uy (by omega)).mono ?_; rintro e w' ⟨rfl, rfl⟩
        rw [← YC.out]
        by_cases hbr : x < y + b
        · obtain ⟨d, hd⟩ : ∃ d : Nat, d = x + 4294967296 - (y + b) := ⟨_, rfl⟩
          have hdd : ((x : Int) + 4294967296 - ((y : Int) + (b : Int))) = (d : Int) := by omega
          have hd32 : (d : Int) % 4294967296 = (d : Int) := by unfold R at hyl; omega
          have F := Lib.hid (FIN.out d 1 (by unfold R; omega) (by unfold R; omega) (by omega))
          have hd0 : d ≤ 4294967295 := by omega
          clear hd hxl hyl
          have cone := cells_one .u32 wr 52 (d : Int) _ rfl
          go_wp2_with (at_builtin; refine wpList_append_new _ rfl _ _ 30 rfl w.heap.size 52 .u32 4 Try.underlying30 info32 _ _ rfl (hL.alloc _) _ _ 1 _ rfl rfl cone (by rw [HL.out]; simp; omega) (by rw [HL.out]; simp; omega) (by simp; omega) ?_)
          intro v' w' hv' hg _
          have hb' : Below w.heap.size w w' := (hb.alloc (by omega) _).grown hg (by simp; omega) fun g hg => (hL.lt g hg).1
          have hlen' : Hid ((L ++ [(d : Int)]).length = i + 1) := Lib.hid (by rw [List.length_append, HL.out]; rfl)
          clear hL hb hg hbs cone hx1 hy1
          go_wp2_with fail
          go_roundw
          case rel => exact ⟨i + 1, 1, _, by go_num, rfl, by omega, hv', hlen'.out, by omega, F.out.1, F.out.2, hb'⟩
          case measure => simp [intOf]; omega
        · obtain ⟨d, hd⟩ : ∃ d : Nat, d = x - (y + b) := ⟨_, rfl⟩
          have hdd : ((x : Int) - ((y : Int) + (b : Int))) = (d : Int) := by omega
          have hd32 : (d : Int) % 4294967296 = (d : Int) := by unfold R at hxl; omega
          have F := Lib.hid (FIN.out d 0 (by omega) (by unfold R at hxl ⊢; omega) (by omega))
          have hd0 : d ≤ 4294967295 := by omega
          clear hd hxl hyl
          have cone := cells_one .u32 wr 52 (d : Int) _ rfl
          go_wp2_with (at_builtin; refine wpList_append_new _ rfl _ _ 30 rfl w.heap.size 52 .u32 4 Try.underlying30 info32 _ _ rfl (hL.alloc _) _ _ 1 _ rfl rfl cone (by rw [HL.out]; simp; omega) (by rw [HL.out]; simp; omega) (by simp; omega) ?_)
          intro v' w' hv' hg _
          have hb' : Below w.heap.size w w' := (hb.alloc (by omega) _).grown hg (by simp; omega) fun g hg => (hL.lt g hg).1
          have hlen' : Hid ((L ++ [(d : Int)]).length = i + 1) := Lib.hid (by rw [List.length_append, HL.out]; rfl)
          clear hL hb hg hbs cone hx1 hy1
          go_wp2_with fail
          go_roundw
          case rel => exact ⟨i + 1, 0, _, by go_num, rfl, by omega, hv', hlen'.out, by omega, F.out.1, F.out.2, hb'⟩
          case measure => simp [intOf]; omega
      · obtain rfl : i = xs.length := by omega
        have hvv : Hid (val L = val xs - val ys) := Lib.hid (by
          have h := HV.out
          rw [List.take_length] at h
          have h1 := val_lt ux
          have h2 := val_lt uL
          rw [HL.out] at h2
          have h3 := Nat.not_lt.1 HLT.out
          have h5 := val_split ys (min xs.length ys.length) (by omega)
          have h6 : val (ys.take (min xs.length ys.length)) = val (ys.take xs.length) := by
            by_cases hh : xs.length ≤ ys.length
            · rw [Nat.min_eq_left hh]
            · rw [Nat.min_eq_right (by omega), List.take_length, List.take_of_length_le (by omega)]
          rw [h6] at h5
          have h7 : R ^ (min xs.length ys.length) * val (ys.drop (min xs.length ys.length)) = 0 := by
            by_cases hh : xs.length ≤ ys.length
            · rw [Nat.min_eq_left hh] at h5 ⊢
              rcases Nat.eq_zero_or_pos (val (ys.drop xs.length)) with h0 | h0
              · rw [h0, Nat.mul_zero]
              · have : R ^ xs.length * 1 ≤ R ^ xs.length * val (ys.drop xs.length) := Nat.mul_le_mul_left _ h0
                omega
            · rw [Nat.min_eq_right (by omega), List.drop_length]; rfl
          rw [h7] at h5
          have hb0 : b = 0 := by
            rcases (show b = 0 ∨ b = 1 by omega) with hh | hh
            · exact hh
            · rw [hh] at h; omega
          rw [hb0] at h
          omega)
        have hlen : L.length ≤ 35184372088832 := by rw [HL.out]; omega
        obtain ⟨a1, c1, rfl, hs1⟩ := hL.sl
        clear hgo
        have pc := rProper_c _ _ _ _ hs1 hlen
        go_wp2_with fail
        refine pc.mono ?_; rintro e w1 ⟨v1, rfl, hn1, hb1⟩
        go_wp2_with fail
        go_ret2
        exact ⟨fun _ => ⟨_, rfl, _, hn1.mono hbs, .norm _, uL.norm, by rw [val_norm, hvv.out]⟩, fun h => absurd h HLT.out, hb.trans (hb1.mono hbs)⟩
end Go.Proofs.Ytadldaidbcdaeaa
