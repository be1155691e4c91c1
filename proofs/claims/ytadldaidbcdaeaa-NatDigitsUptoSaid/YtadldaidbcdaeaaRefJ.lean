/- signetref6: doubled of any limbs, halved, Shl, Shr, by their contracts. (Printed by gen_refj.py.) -/
import Derived.Test.YtadldaidbcdaeaaRefI
import Derived.Test.YtadldaidbcdaeaaRefG
set_option linter.unusedVariables false
set_option linter.unusedSimpArgs false
namespace Go.Sg
open Go.RowKit
theorem half_step {l V a b : Nat} (ha : a = V / 2) (hb : b = V % 2) : (l + R * V) / 2 = (l / 2 + b * 2147483648) + R * a ∧ (l + R * V) % 2 = l % 2 := by
  subst ha hb
  unfold R
  omega
end Go.Sg
namespace Go.Proofs.Ytadldaidbcdaeaa
open Go.RowKit Go.Sg

def DblPost (m n : Nat) (w : World) (e : Ending) (w' : World) : Prop := ∃ v L, e = .returned v ∧ New w.heap.size .u32 52 w' v L ∧ U32 L ∧ val L = 2 * m ∧ L.length ≤ n + 1 ∧ Below w.heap.size w w'

set_option maxHeartbeats 2000000 in
theorem doubledW_c (a : Option Addr) (cap : Nat) (xs : List Int) (w : World) (hx : Sl .u32 w a cap xs) (ux : U32 xs) (hl : xs.length ≤ 35184372088000) :
    Calls Try.prog 87 #[.slice a xs.length cap, .bool false] w (DblPost (val xs) xs.length w) := by
  go_enter Try.func87, Try.ntmps87
  go_wp2_with fail
  go_loopw [5, 6, 7] (fun c v t wr => ∃ (i cn : Nat) (L : List Int), t = .int .i64 (i : Int) ∧ c = .int .u32 (cn : Int) ∧ cn ≤ 1 ∧ New w.heap.size .u32 52 wr v L ∧ L.length = i ∧ i ≤ xs.length ∧ U32 L ∧
      val L + R ^ i * cn = 2 * val (xs.take i) + 0 ∧ Below w.heap.size w wr)
    (fun _ _ t _ => xs.length - (intOf t).toNat)
  case atStart => exact ⟨0, 0, [], rfl, rfl, by omega, .nil _ _ _ _, rfl, by omega, .nil (by omega), by simp [val], .refl _ _⟩
  case round =>
    obtain ⟨i, cn, L, rfl, rfl, hcn, hL, hLl, hi, uL, hval, hb⟩ := hrel
    have HL := Lib.hid hLl
    have HV := Lib.hid hval
    have hbs := hb.size
    clear hLl hval
    by_cases hgo : i < xs.length
    · obtain ⟨bx, ox, rfl, hcc⟩ := hx.cells (by omega)
      have hcx := (hb.cell (World.block_lt_of_cell? w _ (hcc i hgo))).trans (hcc i hgo)
      have hlt := World.block_lt_of_cell? w _ (hcc i hgo)
      have XC := Lib.hid (lb_cast ux i)
      have hxl := lb_lt ux i
      obtain ⟨x, hxe⟩ : ∃ x, x = lb xs i := ⟨_, rfl⟩
      rw [← hxe] at XC hxl
      rw [← XC.out] at hcx
      have HX := Lib.hid hxe
      have hx4 : x ≤ 4294967295 := by unfold R at hxl; omega
      obtain ⟨c2, hc2⟩ : ∃ c2, c2 = x / 2147483648 := ⟨_, rfl⟩
      obtain ⟨lo, hlo⟩ : ∃ lo, lo = x * 2 % 4294967296 := ⟨_, rfl⟩
      have hlo2 : (lo : Int) ≤ 4294967294 := by omega
      have hc21 : c2 ≤ 1 := by omega
      have hw : (x : Int) * 2 % 4294967296 = (lo : Int) := by omega
      have hw2 : IntKind.u32.wrap ((x : Int) * 2) = (lo : Int) := by rw [IntKind.wrap_u32]; exact hw
      have hq : (x : Int) / 2147483648 = (c2 : Int) := by omega
      have fin : Hid (val (L ++ [((lo + cn : Nat) : Int)]) + R ^ (i + 1) * c2 = 2 * val (xs.take (i + 1)) + 0) := Lib.hid (by
        have e : lo + R * c2 = 2 * x := by unfold R; omega
        have e2 : R ^ i * (lo + R * c2) = R ^ i * (2 * x) := by rw [e]
        rw [val_snoc, HL.out, val_take_next, Rpow_next, Int.toNat_natCast, ← HX.out]
        have := HV.out
        rw [Nat.mul_add, ← Nat.mul_assoc] at e2
        rw [Nat.mul_left_comm (R ^ i) 2 x] at e2
        rw [Nat.mul_add (R ^ i), Nat.mul_add 2]
        omega)
      clear hcc hxe hxl hc2 hlo
      have cone := cells_one .u32 wr 52 ((lo : Int) + (cn : Int)) _ rfl
      have HW := Lib.hid hw
      go_wp2_with (at_builtin; refine wpList_append_new _ rfl _ _ 30 rfl w.heap.size 52 .u32 4 Try.underlying30 info32 _ _ rfl (hL.alloc _) _ _ 1 _ rfl rfl cone (by simp only [HL.out, List.length_cons, List.length_nil]; omega) (by simp only [HL.out, List.length_cons, List.length_nil]; omega) (by simp; omega) ?_)
      intro v' w' hv' hg _
      have hb' : Below w.heap.size w w' := (hb.alloc (by omega) _).grown hg (by simp; omega) fun g hg => (hL.lt g hg).1
      have hcx' := (hb'.cell (p := ⟨bx, ox + i, none⟩) hlt).trans ((hb.cell (p := ⟨bx, ox + i, none⟩) hlt).symm.trans hcx)
      replace hv' : New w.heap.size .u32 52 w' v' (L ++ [((lo + cn : Nat) : Int)]) := by rw [Int.natCast_add]; exact hv'
      have hlen' : Hid ((L ++ [((lo + cn : Nat) : Int)]).length = i + 1) := Lib.hid (by rw [List.length_append, HL.out]; rfl)
      have uu : U32 (L ++ [((lo + cn : Nat) : Int)]) := uL.append (by omega) (.one (by omega) (by omega))
      clear hL hb hg hbs cone
      go_wp2_with fail
      go_roundw
      case rel => exact ⟨i + 1, c2, _, by go_num, rfl, hc21, hv', hlen'.out, by omega, uu, fin.out, hb'⟩
      case measure => simp [intOf]; omega
    · obtain rfl : i = xs.length := by omega
      have hge : Hid (2 * val xs ≤ val L + R ^ xs.length * cn) := Lib.hid (by rw [HV.out, List.take_length]; omega)
      rcases (show cn = 0 ∨ cn = 1 by omega) with rfl | rfl
      · clear hge
        go_wp2_with fail
        go_ret
        exact ⟨_, L, rfl, hL, uL, by have := HV.out; rw [List.take_length] at this; omega, by rw [HL.out]; omega, hb⟩
      · go_wp2_with (at_builtin; refine wpList_append_new _ rfl _ _ 30 rfl w.heap.size 52 .u32 4 Try.underlying30 info32 _ _ rfl (hL.alloc _) _ _ 1 [1] rfl rfl (cells_one _ _ _ _ _ rfl) (by simp only [HL.out, List.length_cons, List.length_nil]; omega) (by simp only [HL.out, List.length_cons, List.length_nil]; omega) (by simp; omega) ?_)
        intro v' w' hv' hg _
        have hb' : Below w.heap.size w w' := (hb.alloc (by omega) _).grown hg (by simp; omega) fun g hg => (hL.lt g hg).1
        go_wp2_with fail
        go_ret
        exact ⟨_, L ++ [1], rfl, hv', uL.append (by omega) (.one (by omega) (by omega)), by rw [val_snoc, HL.out]; have := HV.out; rw [List.take_length] at this; simpa using this, by rw [List.length_append, HL.out]; simp, hb'⟩


def HalfPost (m n : Nat) (w : World) (e : Ending) (w' : World) : Prop := ∃ v L, e = .returned v ∧ New w.heap.size .u32 52 w' v L ∧ U32 L ∧ val L = m / 2 ∧ L.length = n ∧ Below w.heap.size w w'

set_option maxHeartbeats 1000000 in
theorem halved_c (a : Option Addr) (cap : Nat) (xs : List Int) (w : World) (hx : Sl .u32 w a cap xs) (ux : U32 xs) (hl : xs.length ≤ 35184372088000) :
    Calls Try.prog 88 #[.slice a xs.length cap] w (HalfPost (val xs) xs.length w) := by
  obtain ⟨n, hn⟩ : ∃ n, n = xs.length := ⟨_, rfl⟩
  have HN := Lib.hid hn
  rw [← hn] at hl ⊢
  clear hn
  go_enter Try.func88, Try.ntmps88
  go_wp2_with (at_make; refine wpList_make_blk _ rfl _ _ 30 rfl 52 .u32 4 Try.underlying30 info32 n _ _ rfl rfl rfl rfl (by omega) (by omega) ?_)
  intro w1 hk1 hs1 hb1
  obtain ⟨g, hg⟩ : ∃ g, g = w.heap.size := ⟨_, rfl⟩
  rw [← hg] at hk1
  rw [← hg]
  have hge : w.heap.size ≤ g := by omega
  clear hg hs1
  go_wp2_with fail
  go_loopw [4, 5] (fun c t wr => ∃ (i b : Nat) (L : List Int), i ≤ n ∧ t = .int .i64 ((i : Int) - 1) ∧ c = .int .u32 ((b * 2147483648 : Nat) : Int) ∧ b = val (xs.drop i) % 2 ∧ Blk wr g .u32 52 L ∧ L.length = n ∧ U32 L ∧ val (L.drop i) = val (xs.drop i) / 2 ∧ Below w.heap.size w wr)
    (fun _ t _ => (intOf t + 1).toNat)
  case atStart => exact ⟨n, 0, _, Nat.le_refl _, by go_num, by go_num, by rw [List.drop_of_length_le (by rw [HN.out]; omega)]; rfl, hk1, by rw [List.length_replicate], .zeros (by omega) _, by rw [List.drop_of_length_le (by rw [List.length_replicate]; omega), List.drop_of_length_le (by rw [HN.out]; omega)]; rfl, hb1⟩
  case round =>
    clear hk1 hb1
    obtain ⟨i, b, L, hi, rfl, rfl, hb0, hk, hlen, uL, hval, hb⟩ := hrel
    have HLEN := Lib.hid hlen
    have HVAL := Lib.hid hval
    have HB0 := Lib.hid hb0
    have b2 : b < 2 := by omega
    clear hlen hval hb0
    by_cases hi0 : i = 0
    · subst hi0
      go_wp2_with fail
      go_ret
      have hv := HVAL.out
      rw [List.drop_zero, List.drop_zero] at hv
      have nw := New.of_blk hk hge n n (Nat.le_refl _) (by rw [HLEN.out]; omega) (by omega)
      rw [List.take_of_length_le (by rw [HLEN.out]; omega)] at nw
      exact ⟨_, L, rfl, nw, uL, hv, by rw [HLEN.out], hb⟩
    · obtain ⟨k, rfl⟩ : ∃ k, i = k + 1 := ⟨i - 1, by omega⟩
      have EK : (((k + 1 : Nat) : Int) - 1) = (k : Int) := by omega
      rw [EK]
      have EK2 := Lib.hid EK
      obtain ⟨bb, off, rfl, hcc⟩ := (hx.below hb).cells (by have := HN.out; omega)
      have c1 := hcc k (by have := HN.out; omega)
      rw [← lb_cast ux k] at c1
      have l1 := lb_lt ux k
      have c2 := hk.cell k (by rw [HLEN.out]; omega)
      have f2 := hk.free k
      have HS := half_step (l := lb xs k) (V := val (xs.drop (k + 1))) rfl HB0.out
      rw [← HVAL.out, ← val_drop xs k (by have := HN.out; omega)] at HS
      obtain ⟨m, hm⟩ : ∃ m, m = lb xs k := ⟨_, rfl⟩
      rw [← hm] at c1 l1 HS
      unfold R at l1
      obtain ⟨y, hy⟩ : ∃ y, y = m / 2 + b * 2147483648 := ⟨_, rfl⟩
      rw [← hy] at HS
      have hs2 := hk.set k (y : Int)
      have uL2 := uL.set k (x := (y : Int)) (by omega) (by omega)
      have hB2 := hb.setCell (p := ⟨g, k, none⟩) hge (.int .u32 (y : Int))
      have len2 : Hid ((L.set k (y : Int)).length = n) := Lib.hid (by rw [List.length_set, HLEN.out])
      have val2 : Hid (val ((L.set k (y : Int)).drop k) = val (xs.drop k) / 2 ∧ m % 2 = val (xs.drop k) % 2) := Lib.hid ⟨by rw [drop_set_here _ _ _ (by rw [HLEN.out]; omega), HS.1]; simp [val], HS.2.symm⟩
      have ey : Hid ((m : Int) / 2 + (b : Int) * 2147483648 = (y : Int)) := Lib.hid (by omega)
      have hge0 : decide ((0 : Int) ≤ (k : Int)) = true := decide_eq_true (by omega)
      have hw1 : IntKind.i64.wrap ((k : Int) - 1) = (k : Int) - 1 := by rw [IntKind.wrap_i64]; omega
      have kn : (k : Int) < (n : Int) := by omega
      obtain ⟨b3, o3, e3, hc3⟩ := (hx.below (hb.setCell (p := ⟨g, k, none⟩) hge (.int .u32 ((m : Int) / 2 + (b : Int) * 2147483648)))).cells (by have := HN.out; omega)
      have e4 := Option.some.inj e3
      simp only [Addr.mk.injEq, and_true] at e4
      obtain ⟨rfl, rfl⟩ := e4
      have c3 := hc3 k (by have := HN.out; omega)
      rw [← lb_cast ux k, ← hm] at c3
      clear hm hy HS hk hb hcc EK hc3 e3
      go_wp2_with fail
      go_roundw
      case rel =>
        rw [ey.out]
        exact ⟨k, m % 2, _, by omega, by go_num, by go_num, val2.out.2, hs2, len2.out, uL2, val2.out.1, hB2⟩
      case measure => (simp [intOf]; try omega)

set_option maxHeartbeats 1000000 in
theorem rShl_c (a : Option Addr) (cap : Nat) (zs : List Int) (k : Int) (w : World) (hc : Sl .u32 w a cap zs) (ux : U32 zs) (hl : zs.length ≤ 35184372000000) (hk : -9223372036854775808 ≤ k ∧ k ≤ 9223372036854775807) :
    Calls Try.prog 46 #[.slice a zs.length cap, .int .i64 k] w (NatPost (val zs * 2 ^ shK k) w) := by
  have cc := clampedM_c k w hk
  obtain ⟨s, hs⟩ : ∃ s, s = shK k := ⟨_, rfl⟩
  have s1 : s ≤ 131072 := by rw [hs]; unfold shK; omega
  rw [← hs] at cc ⊢
  have pc := fun W (h : Sl .u32 W a cap zs) => rProper_c a cap zs W h (by omega)
  unfold NewPost at pc
  have VX := Lib.hid (val_norm zs)
  have hlx : (norm zs).length ≤ zs.length := by rw [length_norm]; exact topz_le zs
  have uX := ux.norm
  obtain ⟨X, hX⟩ : ∃ X, X = norm zs := ⟨_, rfl⟩
  rw [← hX] at pc VX hlx uX
  obtain ⟨q, hq⟩ : ∃ q, q = s / 32 := ⟨_, rfl⟩
  obtain ⟨r, hr⟩ : ∃ r, r = s % 32 := ⟨_, rfl⟩
  have HSQ : Hid (s = 32 * q + r) := Lib.hid (by omega)
  have Eq : (s : Int) / 32 = (q : Int) := by omega
  have Er : (s : Int) % 32 = (r : Int) := by omega
  have q1 : q ≤ 4096 := by omega
  have r1 : r < 32 := by omega
  clear hs hX hq hr hk
  go_enter Try.func46, Try.ntmps46
  go_wp2_with fail
  refine cc.mono ?_; rintro e w' ⟨rfl, rfl⟩
  clear cc
  go_wp2_with fail
  go_loopw [5, 6] (fun v t wr => ∃ i : Nat, i ≤ q ∧ t = .int .i64 (i : Int) ∧ New w.heap.size .u32 52 wr v (List.replicate i 0) ∧ Below w.heap.size w wr) (fun _ t _ => q - (intOf t).toNat)
  case atStart => exact ⟨0, by omega, rfl, New.nil _ _ _ _, .refl _ _⟩
  case round =>
    obtain ⟨i, hi, rfl, hv, hb⟩ := hrel
    have hbs := hb.size
    by_cases hlt : i < q
    · have hd : decide ((i : Int) < (q : Int)) = true := decide_eq_true (by omega)
      have fin : Hid (List.replicate i (0 : Int) ++ [0] = List.replicate (i + 1) 0) := Lib.hid List.replicate_succ'.symm
      go_wp2_with (at_builtin; refine wpList_append_new _ rfl _ _ 30 rfl w.heap.size 52 .u32 4 Try.underlying30 info32 _ _ rfl (hv.alloc _) _ _ 1 [0] rfl rfl (cells_one _ _ _ _ _ rfl) (by simp; omega) (by simp; omega) (by simp; omega) ?_)
      intro v' w' hv' hg' _
      have hlt1 := fun g hg => (hv.lt g hg).1
      have hb' : Below w.heap.size w w' := (hb.alloc hbs _).grown hg' (by simp; omega) hlt1
      rw [fin.out] at hv'
      clear hv hg' hb
      go_wp2_with fail
      go_roundw
      case rel => exact ⟨i + 1, by omega, by go_num, hv', hb'⟩
      case measure => simp [intOf]; omega
    · obtain rfl : i = q := by omega
      have hd : decide ((i : Int) < (i : Int)) = false := by simp
      have p1 := pc wr (hc.below hb)
      clear pc
      go_wp2_with fail
      refine p1.mono ?_; rintro e w2 ⟨vX, rfl, nX, hb2⟩
      clear p1
      obtain ⟨aX, cX, rfl, sX⟩ := nX.sl
      have hv2 := hv.keep hb2
      have hB2 := hb.trans (hb2.mono hbs)
      have hbs2 := hB2.size
      clear hv hb hb2 nX
      go_wp2_with (at_builtin; refine wpList_append_new _ rfl _ _ 30 rfl w.heap.size 52 .u32 4 Try.underlying30 info32 _ _ rfl hv2 _ _ X.length X rfl rfl sX.cells (by simp; omega) (by simp; omega) hbs2 ?_)
      intro v3 w3 hv3 hg3 _
      have hB3 : Below w.heap.size w w3 := hB2.grown hg3 hbs2 (fun g hg => (hv2.lt g hg).1)
      obtain ⟨O, hO⟩ : ∃ O, O = List.replicate i (0 : Int) ++ X := ⟨_, rfl⟩
      have uO : U32 O := by rw [hO]; exact (InR.zeros (by omega) i).append (by omega) uX
      have vO : Hid (val O = R ^ i * val zs) := Lib.hid (by rw [hO, val_zeros_append, VX.out])
      have lO : O.length ≤ 35184372010000 := by rw [hO]; simp; omega
      rw [← hO] at hv3
      clear hO hv2 hg3 hB2 sX
      go_wp2_with fail
      go_loopw [5, 7] (fun v t wr => ∃ (j : Nat) (L : List Int), j ≤ r ∧ t = .int .i64 (j : Int) ∧ New w.heap.size .u32 52 wr v L ∧ U32 L ∧ val L = val O * 2 ^ j ∧ L.length ≤ O.length + j ∧ Below w.heap.size w wr) (fun _ t _ => r - (intOf t).toNat)
      case atStart => exact ⟨0, O, by omega, rfl, hv3, uO, by simp, by omega, hB3⟩
      case round =>
        clear hv3 hB3
        obtain ⟨j, L, hj, rfl, hv, uL, hval, hlen, hb⟩ := hrel
        have HVAL := Lib.hid hval
        have hbs := hb.size
        obtain ⟨aL, cL, rfl, sL⟩ := hv.sl
        clear hval
        by_cases hlt : j < r
        · have hd : decide ((j : Int) < (r : Int)) = true := decide_eq_true (by omega)
          have dc := doubledW_c aL cL L wr sL uL (by omega)
          go_wp2_with fail
          refine dc.mono ?_; rintro e w5 ⟨v5, L5, rfl, n5, u5, val5, len5, hb5⟩
          have V5 : Hid (val L5 = val O * 2 ^ (j + 1)) := Lib.hid (by rw [val5, HVAL.out, Nat.pow_succ, Nat.mul_comm 2, Nat.mul_assoc])
          have n5' := n5.mono hbs
          have hB5 := hb.trans (hb5.mono hbs)
          clear dc val5 n5 hv sL
          go_wp2_with fail
          go_roundw
          case rel => exact ⟨j + 1, L5, by omega, by go_num, n5', u5, V5.out, by omega, hB5⟩
          case measure => simp [intOf]; omega
        · obtain rfl : j = r := by omega
          have hd : decide ((j : Int) < (j : Int)) = false := by simp
          have EV : Hid (val L = val zs * 2 ^ s) := Lib.hid (by rw [HVAL.out, vO.out, HSQ.out, Nat.pow_add, ← Rpow_two, Nat.mul_comm (R ^ i), Nat.mul_assoc])
          have p2 := rProper_c aL cL L wr sL (by omega)
          go_wp2_with fail
          refine p2.mono ?_; rintro e w6 ⟨v6, rfl, n6, hb6⟩
          go_wp2_with fail
          go_ret
          exact ⟨_, rfl, ⟨norm L, n6.mono hbs, Canon.norm L, uL.norm, by rw [val_norm, EV.out]⟩, hb.trans (hb6.mono hbs)⟩

set_option maxHeartbeats 1000000 in
theorem rShr_c (a : Option Addr) (cap : Nat) (zs : List Int) (k : Int) (w : World) (hc : Sl .u32 w a cap zs) (ux : U32 zs) (hl : zs.length ≤ 35184372000000) (hk : -9223372036854775808 ≤ k ∧ k ≤ 9223372036854775807) :
    Calls Try.prog 47 #[.slice a zs.length cap, .int .i64 k] w (NatPost (val zs / 2 ^ shD k) w) := by
  have cc := clampedN_c k w hk
  have hmax := hc.max
  have hle := hc.le
  obtain ⟨s, hs⟩ : ∃ s, s = shD k := ⟨_, rfl⟩
  have s1 : s ≤ 9223372036854775807 := by rw [hs]; unfold shD; omega
  rw [← hs] at cc ⊢
  obtain ⟨n, hn⟩ : ∃ n, n = zs.length := ⟨_, rfl⟩
  have HN := Lib.hid hn
  obtain ⟨q, hq⟩ : ∃ q, q = s / 32 := ⟨_, rfl⟩
  have Eq : (s : Int) / 32 = (q : Int) := by omega
  rw [← hn] at hl hle ⊢
  by_cases hlt : q < n
  · obtain ⟨b, off, rfl, hcc⟩ := hc.cells (by omega)
    obtain ⟨r, hr⟩ : ∃ r, r = s % 32 := ⟨_, rfl⟩
    have hr2 : r < 32 := by omega
    have HSQ : Hid (s = 32 * q + r) := Lib.hid (by omega)
    have Er : (s : Int) % 32 = (r : Int) := by omega
    have hd : decide ((n : Int) ≤ (q : Int)) = false := decide_eq_false (by omega)
    have hd2 : (q : Int) < (n : Int) := by omega
    have hd3 : (q : Int) ≤ (n : Int) := by omega
    have hd4 : q ≤ n := by omega
    have hd5 : ¬ n - q = 0 := by omega
    have hd6 : ¬ n ≤ q := by omega
    have hd7 : ¬ cap - q = 0 := by omega
    have hd8 : ¬ cap ≤ q := by omega
    have hD : Sl .u32 w (some ⟨b, off + q, none⟩) (cap - q) (zs.drop q) := ⟨by rw [List.length_drop]; omega, by omega, fun _ => ⟨b, off + q, rfl, fun j hj => by
      rw [List.length_drop] at hj
      have := hcc (q + j) (by omega)
      rw [nth_drop, Nat.add_assoc]
      exact this⟩⟩
    have lD : Hid ((zs.drop q).length = n - q) := Lib.hid (by rw [List.length_drop, HN.out])
    have uD : U32 (zs.drop q) := ux.drop (by omega) q
    have vD : Hid (val zs / 2 ^ s = val (zs.drop q) / 2 ^ r) := Lib.hid (by
      have e := val_split zs q (by omega)
      have h1 := val_take_lt ux q (by omega)
      rw [HSQ.out, Nat.pow_add, ← Nat.div_div_eq_div_mul, ← Rpow_two, e, Nat.add_mul_div_left _ _ (Rpow_pos _), Nat.div_eq_of_lt h1, Nat.zero_add])
    obtain ⟨D, hDe⟩ : ∃ D, D = zs.drop q := ⟨_, rfl⟩
    rw [← hDe] at hD lD uD vD
    have pc := rProper_c _ _ D w hD (by rw [lD.out]; omega)
    unfold NewPost at pc
    have VX := Lib.hid (val_norm D)
    have hlx : (norm D).length ≤ n := by rw [length_norm]; have := topz_le D; rw [lD.out] at this; omega
    have uX := uD.norm
    obtain ⟨X, hX⟩ : ∃ X, X = norm D := ⟨_, rfl⟩
    rw [← hX] at pc VX hlx uX
    rw [lD.out] at pc
    clear hn hq hs hr hcc hDe hX hk
    go_enter Try.func47, Try.ntmps47
    go_wp2_with fail
    refine cc.mono ?_; rintro e w' ⟨rfl, rfl⟩
    clear cc
    go_wp2_with fail
    refine pc.mono ?_; rintro e w1 ⟨v1, rfl, n1, hb1⟩
    clear pc
    go_wp2_with fail
    go_loopw [5, 6] (fun v t wr => ∃ (j : Nat) (L : List Int), j ≤ r ∧ t = .int .i64 (j : Int) ∧ New w.heap.size .u32 52 wr v L ∧ U32 L ∧ val L = val D / 2 ^ j ∧ L.length ≤ n ∧ Below w.heap.size w wr) (fun _ t _ => r - (intOf t).toNat)
    case atStart => exact ⟨0, X, by omega, rfl, n1, uX, by rw [VX.out]; simp, hlx, hb1⟩
    case round =>
      clear n1 hb1
      obtain ⟨j, L, hj, rfl, hv, uL, hval, hlen, hb⟩ := hrel
      have HVAL := Lib.hid hval
      have hbs := hb.size
      obtain ⟨aL, cL, rfl, sL⟩ := hv.sl
      clear hval
      by_cases hjt : j < r
      · have hd : decide ((j : Int) < (r : Int)) = true := decide_eq_true (by omega)
        have dc := halved_c aL cL L wr sL uL (by omega)
        go_wp2_with fail
        refine dc.mono ?_; rintro e w5 ⟨v5, L5, rfl, n5, u5, val5, len5, hb5⟩
        have V5 : Hid (val L5 = val D / 2 ^ (j + 1)) := Lib.hid (by rw [val5, HVAL.out, Nat.pow_succ, Nat.div_div_eq_div_mul])
        have n5' := n5.mono hbs
        have hB5 := hb.trans (hb5.mono hbs)
        have L5l : L5.length ≤ n := by omega
        clear dc val5 n5 hv sL len5
        go_wp2_with fail
        go_roundw
        case rel => exact ⟨j + 1, L5, by omega, by go_num, n5', u5, V5.out, L5l, hB5⟩
        case measure => simp [intOf]; omega
      · obtain rfl : j = r := by omega
        have hd : decide ((j : Int) < (j : Int)) = false := by simp
        have EV : Hid (val L = val zs / 2 ^ s) := Lib.hid (by rw [HVAL.out, vD.out])
        have p2 := rProper_c aL cL L wr sL (by omega)
        go_wp2_with fail
        refine p2.mono ?_; rintro e w6 ⟨v6, rfl, n6, hb6⟩
        go_wp2_with fail
        go_ret
        exact ⟨_, rfl, ⟨norm L, n6.mono hbs, Canon.norm L, uL.norm, by rw [val_norm, EV.out]⟩, hb.trans (hb6.mono hbs)⟩
  · have h0 : Hid (val zs / 2 ^ s = 0) := Lib.hid (by
      apply Nat.div_eq_of_lt
      refine Nat.lt_of_lt_of_le (val_lt ux) ?_
      rw [← hn, Rpow_two]
      exact Nat.pow_le_pow_right (by decide) (by omega))
    have hd : decide ((n : Int) ≤ (q : Int)) = true := decide_eq_true (by omega)
    have hd2 : (n : Int) ≤ (q : Int) := by omega
    clear hn hq hs hk
    go_enter Try.func47, Try.ntmps47
    go_wp2_with fail
    refine cc.mono ?_; rintro e w' ⟨rfl, rfl⟩
    go_wp2_with fail
    go_ret
    exact ⟨_, rfl, ⟨[], New.nil _ _ _ _, Canon.nil, .nil (by omega), by rw [h0.out]; rfl⟩, .refl _ _⟩
end Go.Proofs.Ytadldaidbcdaeaa
