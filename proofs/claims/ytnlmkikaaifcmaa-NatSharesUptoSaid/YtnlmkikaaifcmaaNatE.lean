/- nat.Mul, Sub, by their contracts. -/
import Derived.Test.YtnlmkikaaifcmaaNatD
set_option linter.unusedVariables false
set_option linter.unusedSimpArgs false
namespace Go.Proofs.Ytnlmkikaaifcmaa
open Go.RowKit Go.Sg

set_option maxHeartbeats 2000000 in
theorem Mul_c (a a' : Option Addr) (cap cap' : Nat) (xs ys : List Int) (w : World) (hc : Sl .u32 w a cap xs) (hc' : Sl .u32 w a' cap' ys) (ux : U32 xs) (uy : U32 ys) (hl : xs.length ≤ 35184372088832) (hl' : ys.length ≤ 35184372088832) :
    Calls Try.prog 14 #[.slice a xs.length cap, .slice a' ys.length cap'] w (NatPost (val xs * val ys) w) := by
  go_enter Try.func14, Try.ntmps14
  go_wp2_with fail
  refine (value_c a cap xs _ hc).mono ?_; rintro e w' ⟨rfl, rfl⟩
  go_wp2_with fail
  refine (value_c a' cap' ys _ hc').mono ?_; rintro e w' ⟨rfl, rfl⟩
  have hx := Sl.norm hc
  have hy := Sl.norm hc'
  have es : Hid (val (norm xs) * val (norm ys) = val xs * val ys) := Lib.hid (by rw [val_norm, val_norm])
  have vx := ux.norm
  have vy := uy.norm
  have hlx : (norm xs).length ≤ 35184372088832 := by rw [length_norm]; have := topz_le xs; omega
  have hly : (norm ys).length ≤ 35184372088832 := by rw [length_norm]; have := topz_le ys; omega
  clear ux uy
  generalize norm xs = x at *
  generalize norm ys = y at *
  go_wp2_with (at_make; refine wpList_make_blk _ rfl _ _ 22 rfl 25 .u32 4 Try.underlying22 info32 (x.length + y.length) _ _ rfl rfl (by omega) (by omega) (by omega) (by omega) ?_)
  intro w1 hk1 hs1 hb1
  have HS := Lib.hid hs1
  obtain ⟨n, hn⟩ : ∃ n, n = y.length := ⟨_, rfl⟩
  rw [← hn] at hk1 hly hy ⊢
  have HN := Lib.hid hn
  clear hs1 hn
  go_wp2_with fail
  go_loopw [25] (fun t wr => ∃ (i : Nat) (L : List Int), i ≤ x.length ∧ t = .int .i64 (i : Int) ∧ Blk wr w.heap.size .u32 25 L ∧ L.length = x.length + n ∧ U32 L ∧
      val (L.take (i + n)) = val (x.take i) * val y ∧ Below w.heap.size w wr)
    (fun t _ => x.length - (intOf t).toNat)
  case atStart => exact ⟨0, _, by omega, rfl, hk1, by simp, .zeros (by omega) _, by rw [List.take_replicate, val_zeros]; simp [val], hb1⟩
  case round =>
    obtain ⟨i, L, hi, rfl, hL, hLl, uL, hval, hb⟩ := hrel
    have HL := Lib.hid hLl
    have HV := Lib.hid hval
    clear hLl hval
    by_cases hlt : i < x.length
    · obtain ⟨bx, ox, rfl, hcc⟩ := hx.cells (by omega)
      have hcx := (hb.cell (World.block_lt_of_cell? w _ (hcc i hlt))).trans (hcc i hlt)
      have XC := Lib.hid (lb_cast vx i)
      rw [← XC.out] at hcx
      have hxl := Lib.hid (lb_lt vx i)
      obtain ⟨p, hp⟩ : ∃ p, p = lb x i := ⟨_, rfl⟩
      have HP := Lib.hid hp
      rw [← hp] at hcx
      have hpR : p ≤ 4294967295 := by have := hxl.out; unfold R at this; omega
      clear hcc hp
      obtain ⟨wo, hwo⟩ : ∃ wo : World, wo = wr := ⟨_, rfl⟩
      subst hwo
      go_wp2_with fail
      go_loopw [10, 32] (fun c t wr => ∃ (j cn : Nat) (L : List Int), j ≤ n ∧ t = .int .i64 (j : Int) ∧ c = .int .u64 (cn : Int) ∧ cn < R ∧ Blk wr w.heap.size .u32 25 L ∧ L.length = x.length + n ∧ U32 L ∧
          val (L.take (i + n)) + R ^ (i + j) * cn = val (x.take i) * val y + R ^ i * (p * val (y.take j)) ∧ Below w.heap.size w wr)
        (fun _ t _ => n - (intOf t).toNat)
      case atStart => exact ⟨0, 0, L, by omega, rfl, rfl, by decide, hL, HL.out, uL, by rw [HV.out]; simp [val], hb⟩
      case round =>
        clear HV HL
        obtain ⟨j, cn, L, hj, rfl, rfl, hcn, hL, hLl, uL, hval, hb⟩ := hrel
        have HL := Lib.hid hLl
        have HV := Lib.hid hval
        clear hLl hval
        by_cases hjn : j < n
        · obtain ⟨by_, oy, rfl, hcc⟩ := hy.cells (by have := HN.out; omega)
          have hcy := (hb.cell (World.block_lt_of_cell? w _ (hcc j (by have := HN.out; omega)))).trans (hcc j (by have := HN.out; omega))
          have hiL : i + j < L.length := by have := HL.out; omega
          have hcl := hL.cell (i + j) hiL
          have hfr := hL.free (i + j)
          have YC := Lib.hid (lb_cast vy j)
          have OC := Lib.hid (lb_cast uL (i + j))
          rw [← YC.out] at hcy
          rw [← OC.out] at hcl
          have hyl := lb_lt vy j
          have hol := lb_lt uL (i + j)
          have hsq := mul_lt_sq (show p < R by unfold R; omega) hyl
          obtain ⟨q, hq⟩ : ∃ q, q = lb y j := ⟨_, rfl⟩
          obtain ⟨o, ho⟩ : ∃ o, o = lb L (i + j) := ⟨_, rfl⟩
          have HQ := Lib.hid hq
          have HO := Lib.hid ho
          rw [← hq] at hcy hyl hsq
          rw [← ho] at hcl hol
          have hqR : q ≤ 4294967295 := by unfold R at hyl; omega
          have hoR : o ≤ 4294967295 := by unfold R at hol; omega
          have hcR : cn ≤ 4294967295 := by unfold R at hcn; omega
          obtain ⟨pq, hpq⟩ : ∃ pq, pq = p * q := ⟨_, rfl⟩
          have hpq2 : ((p : Int) * (q : Int)) = (pq : Int) := by rw [hpq, Int.natCast_mul]
          rw [← hpq] at hsq
          have HPQ := Lib.hid hpq
          have s0 : Hid (((cn : Int) + ((pq : Int) + (o : Int))) % 4294967296 = (((cn + (pq + o)) % R : Nat) : Int)) := Lib.hid (by unfold R; omega)
          have s1 : Hid (((cn : Int) + ((pq : Int) + (o : Int))) / 4294967296 = (((cn + (pq + o)) / R : Nat) : Int)) := Lib.hid (by unfold R; omega)
          have fin : ∀ s, s = cn + (pq + o) → s / R < R ∧ U32 (L.set (i + j) ((s % R : Nat) : Int)) ∧
              val ((L.set (i + j) ((s % R : Nat) : Int)).take (i + n)) + R ^ (i + (j + 1)) * (s / R) = val (x.take i) * val y + R ^ i * (p * val (y.take (j + 1))) := by
            intro s hs
            refine ⟨by rw [hs]; unfold R; omega, uL.set _ (by omega) (by unfold R; omega), ?_⟩
            have e1 := val_take_set L (i + j) (i + n) ((s % R : Nat) : Int) (by omega) (by have := HL.out; omega)
            rw [Int.toNat_natCast, ← HO.out, hs, HPQ.out] at e1
            rw [← Nat.add_assoc, Rpow_next, hs, HPQ.out]
            refine mul_step HV.out _ e1 (Yp := R ^ j) (Nat.pow_add ..) _ ?_
            rw [val_take_next, ← HQ.out]
          have FIN := Lib.hid fin
          have hx1 : (i : Int) + (j : Int) < (x.length : Int) + (n : Int) := by omega
          clear hcc fin hq ho hpq hiL hyl hol hcn
          go_wp2_with fail
          go_roundw
          case rel =>
            obtain ⟨f1, f2, f3⟩ := FIN.out _ rfl
            exact ⟨j + 1, (cn + (pq + o)) / R, L.set (i + j) (((cn + (pq + o)) % R : Nat) : Int), by omega, by go_num, by rw [s1.out], f1, by rw [s0.out]; exact hL.set _ _, by have := HL.out; simpa using this, f2, f3, hb.setCell (Nat.le_refl _) _⟩
          case measure => simp [intOf]; omega
        · obtain rfl : j = n := by omega
          have hcR : cn ≤ 4294967295 := by unfold R at hcn; omega
          have hiL : i + j < L.length := by have := HL.out; omega
          have hcl := hL.cell (i + j) hiL
          have hfr := hL.free (i + j)
          have hL' := hL.set (i + j) (cn : Int)
          have uL' : U32 (L.set (i + j) (cn : Int)) := uL.set _ (by omega) (by omega)
          have hcnm : (cn : Int) % 4294967296 = cn := by omega
          have hx1 : (i : Int) + (j : Int) < (x.length : Int) + (j : Int) := by omega
          have hb' := hb.setCell (p := ⟨w.heap.size, i + j, none⟩) (Nat.le_refl _) (.int .u32 (cn : Int))
          have fin : Hid (val ((L.set (i + j) (cn : Int)).take (i + 1 + j)) = val (x.take (i + 1)) * val y) := Lib.hid (by
            rw [show i + 1 + j = (i + j) + 1 by omega, val_take_set_succ _ _ _ hiL, Int.toNat_natCast, HV.out, List.take_of_length_le (l := y) (by have := HN.out; omega), val_take_next, ← HP.out, Nat.add_mul]
            rw [Nat.mul_assoc])
          have hlen' : Hid ((L.set (i + j) (cn : Int)).length = x.length + j) := Lib.hid (by have := HL.out; simpa using this)
          clear hiL hL uL hb
          go_wp2_with fail
          go_roundw
          case rel => exact ⟨i + 1, _, by omega, by go_num, hL', hlen'.out, uL', fin.out, hb'⟩
          case measure => simp [intOf]; omega
    · obtain rfl : i = x.length := by omega
      have hv : Hid (val L = val xs * val ys) := Lib.hid (by
        have := HV.out
        rw [List.take_of_length_le (by rw [HL.out]; omega), List.take_length] at this
        rw [this, es.out])
      have pc := proper_c _ _ _ _ (hL.sl_full (by rw [HL.out]; omega))
      rw [HL.out] at pc
      go_wp2_with fail
      refine pc.mono ?_; rintro e w' ⟨rfl, rfl⟩
      go_wp2_with fail
      go_ret
      exact ⟨_, rfl, .of_blk hL (Nat.le_refl _) uL hv.out (by rw [HL.out]; omega), hb⟩

/-! ### Sub -/
theorem size32 : (Try.prog.info? 25).map (·.size) = some 1 := by
  obtain ⟨i, h, _, hs, _⟩ := info1 info32
  rw [h]; simp [hs]
/-- The difference, or nothing. -/
def SubPost (m n : Nat) (w : World) (e : Ending) (w' : World) : Prop :=
  (n ≤ m → ∃ v, e = .returned (.tuple #[v, .bool true]) ∧ NatRes w.heap.size w' v (m - n)) ∧ (m < n → e = .returned (.tuple #[.slice none 0 0, .bool false])) ∧ Below w.heap.size w w'

set_option maxHeartbeats 2000000 in
theorem Sub_c (a a' : Option Addr) (cap cap' : Nat) (xs ys : List Int) (w : World) (hc : Sl .u32 w a cap xs) (hc' : Sl .u32 w a' cap' ys) (ux : U32 xs) (uy : U32 ys) (hl : xs.length ≤ 35184372088832) (hl' : ys.length ≤ 35184372088832) :
    Calls Try.prog 20 #[.slice a xs.length cap, .slice a' ys.length cap'] w (SubPost (val xs) (val ys) w) := by
  go_enter Try.func20, Try.ntmps20
  go_wp2_with fail
  refine (Cmp_c a a' cap cap' xs ys _ hc hc' ux uy).mono ?_; rintro e w0 ⟨rfl, hd0⟩
  by_cases hlt : val xs < val ys
  · rw [cmpI_lt hlt]
    have HLT := Lib.hid hlt
    clear hlt
    go_wp2_with fail
    go_ret2
    exact ⟨fun h => absurd HLT.out (Nat.not_lt.2 h), fun _ => rfl, hd0.belowB⟩
  · have hge : ¬ cmpI (val xs) (val ys) < 0 := by unfold cmpI; rw [if_neg hlt]; split <;> omega
    have hrg := cmpI_rng (val xs) (val ys)
    have HLT := Lib.hid hlt
    generalize cmpI (val xs) (val ys) = cc at *
    clear hlt
    have hx0 := hc.below hd0.below
    have hy0 := hc'.below hd0.below
    go_wp2_with fail
    refine (value_c a cap xs _ hx0).mono ?_; rintro e w' ⟨rfl, rfl⟩
    go_wp2_with fail
    refine (value_c a' cap' ys _ hy0).mono ?_; rintro e w' ⟨rfl, rfl⟩
    have hx := Sl.norm hx0
    have hy := Sl.norm hy0
    have ex : Hid (val (norm xs) = val xs) := Lib.hid (val_norm xs)
    have ey : Hid (val (norm ys) = val ys) := Lib.hid (val_norm ys)
    have vx := ux.norm
    have vy := uy.norm
    have cy := Canon.norm ys
    have hlx : (norm xs).length ≤ 35184372088832 := by rw [length_norm]; have := topz_le xs; omega
    have hly : (norm ys).length ≤ 35184372088832 := by rw [length_norm]; have := topz_le ys; omega
    clear ux uy hx0 hy0
    generalize norm xs = x at *
    generalize norm ys = y at *
    have hyx : Hid (y.length ≤ x.length) := Lib.hid (cy.len_lt vy (by rw [ey.out]; exact Nat.lt_of_le_of_lt (Nat.not_lt.1 HLT.out) (by rw [← ex.out]; exact val_lt vx)))
    go_wp2_with (at_make; refine wpList_make_blk _ rfl _ _ 22 rfl 25 .u32 4 Try.underlying22 info32 x.length _ _ rfl rfl rfl rfl (by omega) (by omega) ?_)
    intro w1 hk1 hs1 hb1
    have HS := Lib.hid hs1
    have hap := hy.apart (Nat.le_refl _)
    have hap' := hy.apart' (Nat.le_refl _)
    have hx1 := hx.below hb1
    have hy1 := hy.below hb1
    have hB1 := hd0.belowB (B := w.heap.size) |>.trans (hb1.mono hd0.below.size)
    have h0w : w.heap.size ≤ w0.heap.size := hd0.below.size
    clear hs1 hx hy hb1 hd0
    go_wp2_with (with_reducible refine wpList_copy_blk rfl _ _ 22 22 rfl 25 Try.underlying22 size32 _ w0.heap.size 0 _ _ _ _ _ rfl rfl .u32 _ x hk1 hx1.cells rfl (fun _ _ => rfl) (by simp) ?_)
    intro w2 hk2 hg2 hs2
    replace hk2 : Blk w2 w0.heap.size .u32 25 x := by simpa using hk2
    have hy2 := hy1.grown' hg2 hap'
    have ht := take_c w0.heap.size 0 x.length x.length x _ _ _ _ hk2 vx (by omega) (Nat.le_refl _) hy2 vy hap (by omega)
    have hB2 := hB1.grown hg2 hB1.size (by simp; omega)
    clear hk1 hx1 hy1 hg2 hs2 hy2 hap hap'
    go_wp2_with fail
    refine ht.mono ?_; rintro e w3 ⟨b, L', rfl, hb1, hk3, uL', hlen, _, hval, hg3⟩
    have hB3 := hB2.grown hg3 (by have := hk3.lt; have := hB2.size; omega) (by simp; omega)
    have HLN := Lib.hid hlen
    have hv : Hid (val L' = val xs - val ys) := Lib.hid (by
      rw [sub_zero_off, sub_zero_off, List.take_of_length_le (by omega), List.take_length, List.take_of_length_le hyx.out] at hval
      have h1 := val_lt vx
      have h2 := val_lt uL'
      rw [hlen] at h2
      have h3 := Nat.not_lt.1 HLT.out
      rw [← ex.out, ← ey.out] at h3 ⊢
      have hb0 : b = 0 := by
        rcases (show b = 0 ∨ b = 1 by omega) with h | h
        · exact h
        · rw [h] at hval; omega
      rw [hb0] at hval
      omega)
    clear hval hg3 ht hk2
    have pc := proper_c _ _ _ _ (hk3.sl_full (by rw [hlen]; omega))
    rw [hlen] at pc
    clear hlen
    go_wp2_with fail
    refine pc.mono ?_; rintro e w' ⟨rfl, rfl⟩
    go_wp2_with fail
    go_ret2
    refine ⟨fun _ => ⟨_, rfl, .of_blk hk3 h0w uL' hv.out (by rw [HLN.out]; omega)⟩, fun h => absurd h HLT.out, hB3⟩
end Go.Proofs.Ytnlmkikaaifcmaa
