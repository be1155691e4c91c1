/- signetref6: times, Mul, by their contracts. -/
import Derived.Test.YtadldaidbcdaeaaRefE
set_option linter.unusedVariables false
set_option linter.unusedSimpArgs false
namespace Go.Proofs.Ytadldaidbcdaeaa
open Go.RowKit Go.Sg

def TimesPost (a d ahead len : Nat) (w : World) (e : Ending) (w' : World) : Prop :=
  ∃ v L, e = .returned v ∧ New w.heap.size .u32 52 w' v L ∧ L.length = ahead + len + 1 ∧ U32 L ∧ val L = R ^ ahead * (a * d) ∧ Below w.heap.size w w'

theorem times_step {P T A d c x : Nat} (h : T + P * c = A * d) : (T + P * ((x * d + c) % R)) + P * R * ((x * d + c) / R) = (A + P * x) * d := by
  have := column P (x * d + c)
  rw [Nat.mul_add] at this
  rw [Nat.add_mul, ← h, Nat.mul_assoc P x]
  omega

set_option maxHeartbeats 2000000 in
theorem rtimes_c (a : Option Addr) (cap : Nat) (xs : List Int) (d ahead : Nat) (w : World) (hx : Sl .u32 w a cap xs) (ux : U32 xs) (hd : d < R) (hl : xs.length + ahead ≤ 35184372088000) :
    Calls Try.prog 81 #[.slice a xs.length cap, .int .u32 (d : Int), .int .i64 (ahead : Int)] w (TimesPost (val xs) d ahead xs.length w) := by
  have hd4 : (d : Int) ≤ 4294967295 := by unfold R at hd; omega
  have hdd : d ≤ 4294967295 := by omega
  go_enter Try.func81, Try.ntmps81
  go_wp2_with fail
  go_loopw [7, 8] (fun v t wr => ∃ (i : Nat), t = .int .i64 (i : Int) ∧ i ≤ ahead ∧ New w.heap.size .u32 52 wr v (List.replicate i 0) ∧ Below w.heap.size w wr)
    (fun _ t _ => ahead - (intOf t).toNat)
  case atStart => exact ⟨0, rfl, by omega, .nil _ _ _ _, .refl _ _⟩
  case round =>
    obtain ⟨i, rfl, hi, hL, hb⟩ := hrel
    have hbs := hb.size
    by_cases hlt : i < ahead
    · go_wp2_with (at_builtin; refine wpList_append_new _ rfl _ _ 30 rfl w.heap.size 52 .u32 4 Try.underlying30 info32 _ _ rfl (hL.alloc _) _ _ 1 [0] rfl rfl (cells_one _ _ _ _ _ rfl) (by simp; omega) (by simp; omega) (by simp; omega) ?_)
      intro v' w' hv' hg _
      have hb' : Below w.heap.size w w' := (hb.alloc (by omega) _).grown hg (by simp; omega) fun g hg => (hL.lt g hg).1
      replace hv' : New w.heap.size .u32 52 w' v' (List.replicate (i + 1) 0) := by simpa [List.replicate_succ'] using hv'
      clear hL hb hg hbs
      go_wp2_with fail
      go_roundw
      case rel => exact ⟨i + 1, by go_num, by omega, hv', hb'⟩
      case measure => simp [intOf]; omega
    · obtain rfl : i = ahead := by omega
      obtain ⟨wo, hwo⟩ : ∃ wo : World, wo = wr := ⟨_, rfl⟩
      subst hwo
      go_wp2_with fail
      go_loopw [7, 9, 10, 11] (fun v c t _ wr => ∃ (k cn : Nat) (L : List Int), t = .int .i64 (k : Int) ∧ c = .int .u64 (cn : Int) ∧ cn < R ∧ New w.heap.size .u32 52 wr v (List.replicate i 0 ++ L) ∧ L.length = k ∧ k ≤ xs.length ∧ U32 L ∧
          val L + R ^ k * cn = val (xs.take k) * d ∧ Below w.heap.size w wr)
        (fun _ _ t _ _ => xs.length - (intOf t).toNat)
      case atStart => exact ⟨0, 0, [], rfl, rfl, by decide, by simpa using hL, rfl, by omega, .nil (by omega), by simp [val], hb⟩
      case round =>
        clear hL hb hbs
        obtain ⟨k, cn, L, rfl, rfl, hcn, hL, hLl, hk, uL, hval, hb⟩ := hrel
        have HL := Lib.hid hLl
        have HV := Lib.hid hval
        have hbs := hb.size
        have hcn4 : cn ≤ 4294967295 := by unfold R at hcn; omega
        clear hLl hval hcn
        by_cases hgo : k < xs.length
        · obtain ⟨bx, ox, rfl, hcc⟩ := hx.cells (by omega)
          have hcx := (hb.cell (World.block_lt_of_cell? w _ (hcc k hgo))).trans (hcc k hgo)
          have XC := Lib.hid (lb_cast ux k)
          have hxl := lb_lt ux k
          obtain ⟨x, hxe⟩ : ∃ x, x = lb xs k := ⟨_, rfl⟩
          rw [← hxe] at XC hxl
          rw [← XC.out] at hcx
          have HX := Lib.hid hxe
          have hsq := mul_lt_sq hxl hd
          have hx4 : x ≤ 4294967295 := by unfold R at hxl; omega
          obtain ⟨q, hq⟩ : ∃ q, q = x * d := ⟨_, rfl⟩
          have hq2 : ((x : Int) * (d : Int)) = (q : Int) := by rw [hq, Int.natCast_mul]
          rw [← hq] at hsq
          have s0 : Hid (((q : Int) + (cn : Int)) % 4294967296 = (((q + cn) % R : Nat) : Int)) := Lib.hid (by unfold R; omega)
          have s1 : Hid (((q : Int) + (cn : Int)) / 4294967296 = (((q + cn) / R : Nat) : Int)) := Lib.hid (by unfold R; omega)
          have HSR : Hid ((q + cn) / R < R) := Lib.hid (by unfold R; omega)
          have fin : Hid (val (L ++ [(((q + cn) % R : Nat) : Int)]) + R ^ (k + 1) * ((q + cn) / R) = val (xs.take (k + 1)) * d) := Lib.hid (by
            rw [val_snoc, HL.out, val_take_next, Rpow_next, Int.toNat_natCast, hq, ← HX.out]
            exact times_step HV.out)
          clear hcc hxe hq hxl
          have cone := cells_one .u32 wr 52 (((q + cn) % R : Nat) : Int) _ rfl
          rw [← s0.out] at cone
          go_wp2_with (at_builtin; refine wpList_append_new _ rfl _ _ 30 rfl w.heap.size 52 .u32 4 Try.underlying30 info32 _ _ rfl (hL.alloc _) _ _ 1 _ rfl rfl cone (by simp only [List.length_append, List.length_replicate, HL.out, List.length_cons, List.length_nil]; omega) (by simp only [List.length_append, List.length_replicate, HL.out, List.length_cons, List.length_nil]; omega) (by simp; omega) ?_)
          intro v' w' hv' hg _
          have hb' : Below w.heap.size w w' := (hb.alloc (by omega) _).grown hg (by simp; omega) fun g hg => (hL.lt g hg).1
          rw [s0.out] at hv'
          replace hv' : New w.heap.size .u32 52 w' v' (List.replicate i 0 ++ (L ++ [(((q + cn) % R : Nat) : Int)])) := by first | exact hv' | (rw [← List.append_assoc]; exact hv')
          have hlen' : Hid ((L ++ [(((q + cn) % R : Nat) : Int)]).length = k + 1) := Lib.hid (by rw [List.length_append, HL.out]; rfl)
          have uu : U32 (L ++ [(((q + cn) % R : Nat) : Int)]) := uL.append (by omega) (.one (by omega) (by unfold R; omega))
          clear hL hb hg hbs cone
          go_wp2_with fail
          go_roundw
          case rel => exact ⟨k + 1, (q + cn) / R, _, by go_num, by rw [s1.out], HSR.out, hv', hlen'.out, by omega, uu, fin.out, hb'⟩
          case measure => simp [intOf]; omega
        · obtain rfl : k = xs.length := by omega
          have hcm : (cn : Int) % 4294967296 = cn := by omega
          have hvv : Hid (val (List.replicate i 0 ++ (L ++ [(cn : Int)])) = R ^ i * (val xs * d)) := Lib.hid (by
            rw [val_zeros_append, val_snoc, HL.out, Int.toNat_natCast, HV.out, List.take_length])
          have uu : U32 (List.replicate i 0 ++ (L ++ [(cn : Int)])) := (InR.zeros (by omega) _).append (by omega) (uL.append (by omega) (.one (by omega) (by omega)))
          have hlen : Hid ((List.replicate i 0 ++ (L ++ [(cn : Int)])).length = i + xs.length + 1) := Lib.hid (by simp only [List.length_append, List.length_replicate, HL.out, List.length_cons, List.length_nil]; omega)
          clear hgo
          go_wp2_with (at_builtin; refine wpList_append_new _ rfl _ _ 30 rfl w.heap.size 52 .u32 4 Try.underlying30 info32 _ _ rfl (hL.alloc _) _ _ 1 [(cn : Int)] rfl rfl (cells_one _ _ _ _ _ rfl) (by simp only [List.length_append, List.length_replicate, HL.out, List.length_cons, List.length_nil]; omega) (by simp only [List.length_append, List.length_replicate, HL.out, List.length_cons, List.length_nil]; omega) (by simp; omega) ?_)
          intro v' w' hv' hg _
          have hb' : Below w.heap.size w w' := (hb.alloc (by omega) _).grown hg (by simp; omega) fun g hg => (hL.lt g hg).1
          replace hv' : New w.heap.size .u32 52 w' v' (List.replicate i 0 ++ (L ++ [(cn : Int)])) := by first | exact hv' | (rw [← List.append_assoc]; exact hv')
          clear hL hb hg hbs
          go_wp2_with fail
          go_ret
          exact ⟨_, _, rfl, hv', hlen.out, uu, hvv.out, hb'⟩

set_option maxHeartbeats 2000000 in
theorem rMul_c (a a' : Option Addr) (cap cap' : Nat) (xs ys : List Int) (w : World) (hx : Sl .u32 w a cap xs) (hy : Sl .u32 w a' cap' ys) (ux : U32 xs) (uy : U32 ys) (hl : xs.length + ys.length ≤ 35184372087000) :
    Calls Try.prog 31 #[.slice a xs.length cap, .slice a' ys.length cap'] w (NatPost (val xs * val ys) w) := by
  go_enter Try.func31, Try.ntmps31
  go_wp2_with fail
  go_loopw [5, 6, 7] (fun v t _ wr => ∃ (i : Nat) (L : List Int), t = .int .i64 (i : Int) ∧ i ≤ ys.length ∧ New w.heap.size .u32 52 wr v L ∧ U32 L ∧ Canon L ∧ val L = val xs * val (ys.take i) ∧ Below w.heap.size w wr)
    (fun _ t _ _ => ys.length - (intOf t).toNat)
  case atStart => exact ⟨0, [], rfl, by omega, .nil _ _ _ _, .nil (by omega), .nil, by simp [val], .refl _ _⟩
  case round =>
    obtain ⟨i, L, rfl, hi, hL, uL, cL, hval, hb⟩ := hrel
    have HV := Lib.hid hval
    have hbs := hb.size
    have hLl : L.length ≤ 35184372087000 := by
      have h1 := cL.len_lt uL (n := xs.length + ys.length) (by
        rw [hval, Nat.pow_add]
        have h1 := val_lt ux
        have h2 := val_lt (uy.take (by omega) i)
        have h3 : R ^ (ys.take i).length ≤ R ^ ys.length := Nat.pow_le_pow_right R_pos (by simp; omega)
        have h4 := Rpow_pos xs.length
        exact Nat.lt_of_le_of_lt (Nat.mul_le_mul_right _ (Nat.le_of_lt h1)) ((Nat.mul_lt_mul_left h4).2 (by omega)))
      omega
    clear hval
    by_cases hgo : i < ys.length
    · obtain ⟨by_, oy, rfl, hcc⟩ := hy.cells (by omega)
      have hcy := (hb.cell (World.block_lt_of_cell? w _ (hcc i hgo))).trans (hcc i hgo)
      have YC := Lib.hid (lb_cast uy i)
      have hyl := lb_lt uy i
      obtain ⟨y, hye⟩ : ∃ y, y = lb ys i := ⟨_, rfl⟩
      rw [← hye] at YC hyl
      rw [← YC.out] at hcy
      have HY := Lib.hid hye
      have hx1 := hx.below (w' := wr) (hb.mono (Nat.le_refl _))
      clear hcc hye
      by_cases h0 : y = 0
      · have g1 : ((y : Int) != 0) = false := by simp [h0]
        have F : Hid (val L = val xs * val (ys.take (i + 1))) := Lib.hid (by rw [val_take_next, ← HY.out, h0, HV.out]; simp)
        clear h0
        go_wp2_with fail
        go_roundw
        case rel => exact ⟨i + 1, L, by go_num, by omega, hL, uL, cL, F.out, hb⟩
        case measure => simp [intOf]; omega
      · have g1 : ((y : Int) != 0) = true := by simp; omega
        clear h0
        go_wp2_with fail
        refine (rtimes_c a cap xs y i _ hx1 ux hyl (by omega)).mono ?_; rintro e w1 ⟨v1, L1, rfl, hn1, hl1, u1, hv1, hb1⟩
        obtain ⟨a1, c1, rfl, s1⟩ := hn1.sl
        have hL1 := hL.keep hb1
        obtain ⟨a2, c2, rfl, s2⟩ := hL1.sl
        have hB1 := hb.trans (hb1.mono hbs)
        have hl1b : L1.length ≤ 35184372088000 := by omega
        have F : Hid (val L + val L1 = val xs * val (ys.take (i + 1))) := Lib.hid (by
          rw [val_take_next, ← HY.out, HV.out, hv1, Nat.mul_add]
          congr 1
          rw [Nat.mul_left_comm])
        clear hl1 hv1 hn1 hL hL1 hb1 hb hbs
        go_wp2_with fail
        refine (rAdd_c _ _ _ _ _ _ _ s2 s1 uL u1 (by omega) hl1b).mono ?_; rintro e w2 ⟨v2, rfl, ⟨z, hnz, cz, uz, hz⟩, hb2⟩
        have hB2 := hB1.trans (hb2.mono hB1.size)
        have hnz := hnz.mono hB1.size
        have HZ := Lib.hid hz
        clear hz hb2 hB1 s1 s2
        go_wp2_with fail
        go_roundw
        case rel => exact ⟨i + 1, z, by go_num, by omega, hnz, uz, cz, by rw [HZ.out, F.out], hB2⟩
        case measure => simp [intOf]; omega
    · obtain rfl : i = ys.length := by omega
      obtain ⟨a1, c1, rfl, hs1⟩ := hL.sl
      clear hgo
      have pc := rProper_c _ _ _ _ hs1 (by omega)
      go_wp2_with fail
      refine pc.mono ?_; rintro e w1 ⟨v1, rfl, hn1, hb1⟩
      go_wp2_with fail
      go_ret
      exact ⟨_, rfl, ⟨_, hn1.mono hbs, .norm _, uL.norm, by rw [val_norm, HV.out, List.take_length]⟩, hb.trans (hb1.mono hbs)⟩
end Go.Proofs.Ytadldaidbcdaeaa
