/- signetref6: Same, Add, Sub, times, Mul; signetlaw6.copied, by their contracts. -/
import Derived.Test.YtadldaidbcdaeaaRefC
import Derived.Test.YtadldaidbcdaeaaNumB
import Derived.Test.YtadldaidbcdaeaaBaseB
set_option linter.unusedVariables false
set_option linter.unusedSimpArgs false
namespace Go.Proofs.Ytadldaidbcdaeaa
open Go.RowKit Go.Sg

theorem eq_of_nth {xs ys : List Int} (hl : xs.length = ys.length) (h : ∀ i, i < xs.length → nth xs i = nth ys i) : xs = ys := ext_nth _ _ hl h

set_option maxHeartbeats 1000000 in
theorem rSame_c (a a' : Option Addr) (cap cap' : Nat) (xs ys : List Int) (w : World) (hx : Sl .u32 w a cap xs) (hy : Sl .u32 w a' cap' ys) :
    Calls Try.prog 29 #[.slice a xs.length cap, .slice a' ys.length cap'] w (BoolPost (decide (xs = ys)) w) := by
  have hxm := Nat.le_trans hx.le hx.max
  have hym := Nat.le_trans hy.le hy.max
  by_cases hl : xs.length = ys.length
  · obtain ⟨n, hn⟩ : ∃ n, n = ys.length := ⟨_, rfl⟩
    have HN := Lib.hid hn
    have HX := Lib.hid (show xs.length = n by omega)
    rw [hl]
    rw [← hn] at hym ⊢
    clear hl hn hxm
    have hne : ((n : Int) != n) = false := by simp
    go_enter Try.func29, Try.ntmps29
    go_wp2_with fail
    go_loopw [5] (fun t wr => ∃ i : Nat, i ≤ n ∧ t = .int .i64 (i : Int) ∧ (∀ j, j < i → nth xs j = nth ys j) ∧ Dr w wr)
      (fun t _ => n - (intOf t).toNat)
    case atStart => exact ⟨0, by omega, rfl, fun j hj => by omega, .refl _⟩
    case round =>
      obtain ⟨i, hi, rfl, hall, nd, rfl⟩ := hrel
      have HA := Lib.hid hall
      clear hall
      by_cases hlt : i < n
      · obtain ⟨b, off, rfl, hcc⟩ := hx.cells (by have := HX.out; omega)
        obtain ⟨b', off', rfl, hcc'⟩ := hy.cells (by have := HN.out; omega)
        have c1 := hcc i (by have := HX.out; omega)
        have c2 := hcc' i (by have := HN.out; omega)
        clear hcc hcc'
        by_cases he : nth xs i = nth ys i
        · have HE := Lib.hid he
          have g1 : (nth xs i != nth ys i) = false := by rw [he]; simp
          clear he
          go_wp2_with fail
          go_quiet (fail)
          go_wp2_with fail
          go_roundw
          case rel => exact ⟨i + 1, by omega, by go_num, fun j hj => by
            by_cases h : j = i
            · rw [h]; exact HE.out
            · exact HA.out j (by omega), (by repeat (first | exact Dr.refl _ | apply Dr.drewN))⟩
          case measure => simp [intOf]; omega
        · have HE := Lib.hid (show decide (xs = ys) = false from decide_eq_false fun h => he (by rw [h]))
          have g1 : (nth xs i != nth ys i) = true := by simpa using he
          clear he
          go_wp2_with fail
          go_quiet (fail)
          go_wp2_with fail
          go_ret
          exact ⟨by rw [HE.out]; rfl, (by repeat (first | exact Dr.refl _ | apply Dr.drewN))⟩
      · have HE := Lib.hid (show decide (xs = ys) = true from decide_eq_true (eq_of_nth (by rw [HX.out, HN.out]) fun j hj => HA.out j (by have := HX.out; omega)))
        go_wp2_with fail
        go_ret
        exact ⟨by rw [HE.out]; rfl, nd, rfl⟩
  · have HE := Lib.hid (show decide (xs = ys) = false from decide_eq_false fun h => hl (by rw [h]))
    have hne : ((xs.length : Int) != ys.length) = true := by simp; omega
    clear hl
    go_enter Try.func29, Try.ntmps29
    go_wp2_with fail
    go_ret
    exact ⟨by rw [HE.out]; rfl, .refl _⟩

set_option maxHeartbeats 2000000 in
theorem rAdd_c (a a' : Option Addr) (cap cap' : Nat) (xs ys : List Int) (w : World) (hx : Sl .u32 w a cap xs) (hy : Sl .u32 w a' cap' ys) (ux : U32 xs) (uy : U32 ys) (hl : xs.length ≤ 35184372088000) (hl' : ys.length ≤ 35184372088000) :
    Calls Try.prog 30 #[.slice a xs.length cap, .slice a' ys.length cap'] w (NatPost (val xs + val ys) w) := by
  go_enter Try.func30, Try.ntmps30
  go_wp2_with fail
  go_loopw [5, 6, 7] (fun v c t wr => ∃ (i cn : Nat) (L : List Int), t = .int .i64 (i : Int) ∧ c = .int .u64 (cn : Int) ∧ cn ≤ 1 ∧ New w.heap.size .u32 52 wr v L ∧ L.length = i ∧ i ≤ max xs.length ys.length ∧ U32 L ∧
      val L + R ^ i * cn = val (xs.take i) + val (ys.take i) ∧ Below w.heap.size w wr)
    (fun _ _ t _ => max xs.length ys.length - (intOf t).toNat)
  case atStart => exact ⟨0, 0, [], rfl, rfl, by omega, .nil _ _ _ _, rfl, by omega, .nil (by omega), by simp [val], .refl _ _⟩
  case round =>
    obtain ⟨i, cn, L, rfl, rfl, hcn, hL, hLl, him, uL, hval, hb⟩ := hrel
    have HL := Lib.hid hLl
    have HV := Lib.hid hval
    have HM := Lib.hid him
    have hmx : i ≤ 35184372088000 := by omega
    have hbs := hb.size
    clear hLl hval him
    by_cases hgo : i < xs.length ∨ i < ys.length
    · have g1 : decide ((i : Int) < (xs.length : Int)) = decide (i < xs.length) := by simp
      have hx1 := hx.below (w' := wr) (hb.mono (Nat.le_refl _))
      have hy1 := hy.below (w' := wr) (hb.mono (Nat.le_refl _))
      have hxl := lb_lt ux i
      have hyl := lb_lt uy i
      have XC := Lib.hid (lb_cast ux i)
      have YC := Lib.hid (lb_cast uy i)
      have hxi : ((lb xs i : Nat) : Int) ≤ 4294967295 := by unfold R at hxl; omega
      have hyi : ((lb ys i : Nat) : Int) ≤ 4294967295 := by unfold R at hyl; omega
      have hcni : (cn : Int) ≤ 1 := by omega
      obtain ⟨s, hs⟩ : ∃ s, s = cn + lb xs i + lb ys i := ⟨_, rfl⟩
      have s0 : Hid ((((lb xs i : Nat) : Int) + (lb ys i : Nat) + (cn : Int)) % 4294967296 = ((s % R : Nat) : Int)) := Lib.hid (by unfold R; omega)
      have s1 : Hid ((((lb xs i : Nat) : Int) + (lb ys i : Nat) + (cn : Int)) / 4294967296 = ((s / R : Nat) : Int)) := Lib.hid (by unfold R; omega)
      have HSR : Hid (s / R ≤ 1) := Lib.hid (by rw [hs]; unfold R at hxl hyl ⊢; omega)
      have fin : Hid (val (L ++ [((s % R : Nat) : Int)]) + R ^ (i + 1) * (s / R) = val (xs.take (i + 1)) + val (ys.take (i + 1))) := Lib.hid (by
        rw [val_snoc, HL.out, val_take_next, val_take_next, Rpow_next, Int.toNat_natCast, hs]
        exact add_step HV.out)
      have hgo2 : Hid (i < max xs.length ys.length) := Lib.hid (by omega)
      clear hxl hyl hs g1
      by_cases ha : i < xs.length
      · clear hgo
        go_wp2_with fail
        refine (rlimb_c a cap i xs _ hx1 ux (by omega)).mono ?_; rintro e w' ⟨rfl, rfl⟩
        rw [← XC.out]
        go_wp2_with fail
        refine (rlimb_c a' cap' i ys _ hy1 uy (by omega)).mono ?_; rintro e w' ⟨rfl, rfl⟩
        rw [← YC.out]
        have cone := cells_one .u32 wr 52 ((s % R : Nat) : Int) _ rfl
        rw [← s0.out] at cone
        go_wp2_with (at_builtin; refine wpList_append_new _ rfl _ _ 30 rfl w.heap.size 52 .u32 4 Try.underlying30 info32 _ _ rfl (hL.alloc _) _ _ 1 _ rfl rfl cone (by rw [HL.out]; simp; omega) (by rw [HL.out]; simp; omega) (by simp; omega) ?_)
        intro v' w' hv' hg _
        have hb' : Below w.heap.size w w' := (hb.alloc (by omega) _).grown hg (by simp; omega) fun g hg => (hL.lt g hg).1
        have hlen' : Hid ((L ++ [((s % R : Nat) : Int)]).length = i + 1) := Lib.hid (by rw [List.length_append, HL.out]; rfl)
        have uu : U32 (L ++ [((s % R : Nat) : Int)]) := uL.append (by omega) (.one (by omega) (by unfold R; omega))
        rw [s0.out] at hv'
        clear hL hb hg hbs cone hx1 hy1
        go_wp2_with fail
        go_roundw
        case rel => exact ⟨i + 1, s / R, _, by go_num, by rw [s1.out], HSR.out, hv', hlen'.out, by have := hgo2.out; omega, uu, fin.out, hb'⟩
        case measure => have := hgo2.out; simp [intOf]; omega
      · have hb2 : i < ys.length := by omega
        clear hgo
        go_wp2_with fail
        refine (rlimb_c a cap i xs _ hx1 ux (by omega)).mono ?_; rintro e w' ⟨rfl, rfl⟩
        rw [← XC.out]
        go_wp2_with fail
        refine (rlimb_c a' cap' i ys _ hy1 uy (by omega)).mono ?_; rintro e w' ⟨rfl, rfl⟩
        rw [← YC.out]
        have cone := cells_one .u32 wr 52 ((s % R : Nat) : Int) _ rfl
        rw [← s0.out] at cone
        go_wp2_with (at_builtin; refine wpList_append_new _ rfl _ _ 30 rfl w.heap.size 52 .u32 4 Try.underlying30 info32 _ _ rfl (hL.alloc _) _ _ 1 _ rfl rfl cone (by rw [HL.out]; simp; omega) (by rw [HL.out]; simp; omega) (by simp; omega) ?_)
        intro v' w' hv' hg _
        have hb' : Below w.heap.size w w' := (hb.alloc (by omega) _).grown hg (by simp; omega) fun g hg => (hL.lt g hg).1
        have hlen' : Hid ((L ++ [((s % R : Nat) : Int)]).length = i + 1) := Lib.hid (by rw [List.length_append, HL.out]; rfl)
        have uu : U32 (L ++ [((s % R : Nat) : Int)]) := uL.append (by omega) (.one (by omega) (by unfold R; omega))
        rw [s0.out] at hv'
        clear hL hb hg hbs cone hx1 hy1
        go_wp2_with fail
        go_roundw
        case rel => exact ⟨i + 1, s / R, _, by go_num, by rw [s1.out], HSR.out, hv', hlen'.out, by have := hgo2.out; omega, uu, fin.out, hb'⟩
        case measure => have := hgo2.out; simp [intOf]; omega
    · have hx2 : xs.length ≤ i := by omega
      have hy2 : ys.length ≤ i := by omega
      have hvv : Hid (val (L ++ [(cn : Int)]) = val xs + val ys) := Lib.hid (by
        rw [val_snoc, HL.out, Int.toNat_natCast, HV.out, List.take_of_length_le hx2, List.take_of_length_le hy2])
      have uu : U32 (L ++ [(cn : Int)]) := uL.append (by omega) (.one (by omega) (by omega))
      have hcm : (cn : Int) % 4294967296 = cn := by omega
      have hlen : (L ++ [(cn : Int)]).length ≤ 35184372088832 := by rw [List.length_append, HL.out]; simp; omega
      clear hgo
      go_wp2_with (at_builtin; refine wpList_append_new _ rfl _ _ 30 rfl w.heap.size 52 .u32 4 Try.underlying30 info32 _ _ rfl (hL.alloc _) _ _ 1 [(cn : Int)] rfl rfl (cells_one _ _ _ _ _ rfl) (by rw [HL.out]; simp; omega) (by rw [HL.out]; simp; omega) (by simp; omega) ?_)
      intro v' w' hv' hg _
      have hb' : Below w.heap.size w w' := (hb.alloc (by omega) _).grown hg (by simp; omega) fun g hg => (hL.lt g hg).1
      obtain ⟨L2, hL2⟩ : ∃ L2, L2 = L ++ [(cn : Int)] := ⟨_, rfl⟩
      rw [← hL2] at hv' hvv uu hlen
      obtain ⟨a1, c1, rfl, hs1⟩ := hv'.sl
      have hbs' := hb'.size
      clear hL hb hg hbs hL2
      go_wp2_with fail
      refine (rProper_c _ _ _ _ hs1 hlen).mono ?_; rintro e w1 ⟨v1, rfl, hn1, hb1⟩
      go_wp2_with fail
      go_ret
      exact ⟨_, rfl, ⟨_, hn1.mono hbs', .norm _, uu.norm, by rw [val_norm, hvv.out]⟩, hb'.trans (hb1.mono hbs')⟩
end Go.Proofs.Ytadldaidbcdaeaa
