import Derived.Test.YtlolkighnnedfaaDoorRows
import Derived.Test.YtlolkighnnedfaaDoorZ4
import Derived.Deep.QuietTactic
import Derived.BigQuiet
import Derived.BigGuard
/- package nat: value, proper, Cmp, Len32, Bits, Uint, by their contracts. -/
set_option linter.unusedVariables false
set_option linter.unusedSimpArgs false
namespace Go.Proofs.YtlolkighnnedfaaDoor
open Go.RowKit Go.Sg

theorem Sl.norm {k : IntKind} {w : World} {a : Option Addr} {cap : Nat} {xs : List Int} (h : Sl k w a cap xs) : Sl k w a (norm xs).length (norm xs) := (h.take (topz xs)).short

set_option maxHeartbeats 400000 in
theorem proper_c (a : Option Addr) (cap : Nat) (zs : List Int) (w : World) (hc : Sl .u32 w a cap zs) :
    Calls Tryd.prog 91 #[.slice a zs.length cap] w fun e w' => e = .returned (.slice a (norm zs).length (norm zs).length) ∧ w = w' := by
  have hcap := hc.le
  have hm := hc.max
  go_enter Tryd.func91, Tryd.ntmps91
  go_wp2
  go_loop [0] (fun t => ∃ k : Nat, k ≤ zs.length ∧ t = .slice a k cap ∧ topz zs = topz (zs.take k))
    (fun t => match t with | .slice _ k _ => k | _ => 0)
  case atStart => exact ⟨zs.length, Nat.le_refl _, rfl, by simp⟩
  case round =>
    obtain ⟨k, hk, rfl, hz⟩ := hrel
    have HZ := Lib.hid hz; clear hz
    by_cases h0 : 0 < k
    · obtain ⟨b, off, rfl, hcc⟩ := hc.cells (by omega)
      have hcell' := hcc (k-1) (by omega)
      have hx : (0 < (k:Int)) := by omega
      clear hcc
      go_wp2
      · refine ⟨⟨k-1, by omega, rfl, ?_⟩, by simp; omega⟩
        rw [HZ.out]; apply topz_down _ _ h0 hk; simpa using ‹(_ == (0:Int)) = true›
      · go_ret
        refine ⟨?_, rfl⟩
        rw [length_norm, HZ.out, topz_stop _ _ h0 hk (by simpa using ‹(_ == (0:Int)) = false›)]; rfl
    · obtain rfl : k = 0 := by omega
      go_wp2
      go_ret
      refine ⟨?_, rfl⟩
      rw [length_norm, HZ.out]; simp [topz]

theorem value_c (a : Option Addr) (cap : Nat) (zs : List Int) (w : World) (hc : Sl .u32 w a cap zs) :
    Calls Tryd.prog 67 #[.slice a zs.length cap] w fun e w' => e = .returned (.slice a (norm zs).length (norm zs).length) ∧ w = w' := by
  go_enter Tryd.func67, Tryd.ntmps67
  go_wp2_with (go_at_call 91; refine (proper_c _ _ _ _ hc).mono ?_; rintro e w' ⟨rfl, rfl⟩)
  go_ret
  exact ⟨rfl, rfl⟩

/-- The order of two numbers, as Cmp tells it. -/
def cmpI (m n : Nat) : Int := if m < n then -1 else if n < m then 1 else 0
theorem cmpI_lt {m n : Nat} (h : m < n) : cmpI m n = -1 := if_pos h
theorem cmpI_gt {m n : Nat} (h : n < m) : cmpI m n = 1 := by rw [cmpI, if_neg (by omega), if_pos h]
theorem cmpI_eq {m n : Nat} (h : m = n) : cmpI m n = 0 := by rw [cmpI, if_neg (by omega), if_neg (by omega)]
theorem cmpI_rng (m n : Nat) : -1 ≤ cmpI m n ∧ cmpI m n ≤ 1 := by unfold cmpI; split; · omega
                                                                  split <;> omega

theorem canon_lt {xs ys : List Int} (hx : Canon xs) (ux : U32 xs) (hy : Canon ys) (uy : U32 ys) (h : xs.length < ys.length) : val xs < val ys := by
  have h1 := val_lt ux
  have h2 := hy.ge uy (by omega)
  have h3 : R ^ xs.length ≤ R ^ (ys.length - 1) := Nat.pow_le_pow_right R_pos (by omega)
  omega
/-- Of two numbers with the same limbs from k + 1 on: limb k decides. -/
theorem top_lt {xs ys : List Int} (ux : U32 xs) (k : Nat) (hl : xs.length = ys.length) (hk : k < xs.length) (he : xs.drop (k + 1) = ys.drop (k + 1)) (h : nth xs k < nth ys k) : val xs < val ys := by
  have e1 := val_split xs (k + 1) (by omega)
  have e2 := val_split ys (k + 1) (by omega)
  rw [he] at e1
  have e3 := val_take_succ xs k hk
  have e4 := val_take_succ ys k (by omega)
  have h1 := val_take_lt ux k (by omega)
  have h2 := ux k
  have h3 : lb xs k + 1 ≤ lb ys k := by unfold lb; omega
  have h4 := Nat.mul_le_mul_left (R ^ k) h3
  rw [Nat.mul_add] at h4
  omega
theorem drop_step {xs ys : List Int} (k : Nat) (hl : xs.length = ys.length) (hk : k < xs.length) (he : xs.drop (k + 1) = ys.drop (k + 1)) (h : nth xs k = nth ys k) : xs.drop k = ys.drop k := by
  rw [drop_nth xs k hk, drop_nth ys k (by omega), he, h]

/-- Only draws. -/
def Dr (w w' : World) : Prop := ∃ n, w' = w.drewN n
theorem Dr.refl (w : World) : Dr w w := ⟨0, rfl⟩
theorem Dr.drewN {w w' : World} (h : Dr w w') (n : Nat) : Dr w (w'.drewN n) := by obtain ⟨m, rfl⟩ := h; exact ⟨m + n, by simp⟩
theorem Dr.below {w w' : World} (h : Dr w w') : Below w.heap.size w w' := by obtain ⟨m, rfl⟩ := h; exact below_drewN (.refl _ _) _
theorem Dr.belowB {B : Nat} {w w' : World} (h : Dr w w') : Below B w w' := by obtain ⟨m, rfl⟩ := h; exact below_drewN (.refl _ _) _
def BoolPost (b : Bool) (w : World) (e : Ending) (w' : World) : Prop := e = .returned (.bool b) ∧ Dr w w'
def CmpPost (r : Int) (w : World) (e : Ending) (w' : World) : Prop := e = .returned (.int .i64 r) ∧ Dr w w'

set_option maxHeartbeats 800000 in
theorem Cmp_c (a a' : Option Addr) (cap cap' : Nat) (zs ys : List Int) (w : World) (hc : Sl .u32 w a cap zs) (hc' : Sl .u32 w a' cap' ys) (ux : U32 zs) (uy : U32 ys) :
    Calls Tryd.prog 25 #[.slice a zs.length cap, .slice a' ys.length cap'] w (CmpPost (cmpI (val zs) (val ys)) w) := by
  go_enter Tryd.func25, Tryd.ntmps25
  go_wp2_with fail
  refine (value_c a cap zs _ hc).mono ?_; rintro e w' ⟨rfl, rfl⟩
  go_wp2_with fail
  refine (value_c a' cap' ys _ hc').mono ?_; rintro e w' ⟨rfl, rfl⟩
  have hx := Sl.norm hc
  have hy := Sl.norm hc'
  have ex := Lib.hid (val_norm zs).symm
  have ey := Lib.hid (val_norm ys).symm
  have cx := Canon.norm zs
  have cy := Canon.norm ys
  have vx := ux.norm
  have vy := uy.norm
  clear ux uy
  generalize norm zs = x at *
  generalize norm ys = y at *
  have hxm := hx.max
  have hym := hy.max
  rcases Nat.lt_trichotomy x.length y.length with h | h | h
  · have hv := canon_lt cx vx cy vy h
    go_wp2_with fail
    go_ret
    exact ⟨by rw [ex.out, ey.out, cmpI_lt hv]; rfl, Dr.refl _⟩
  · have Hl := Lib.hid h
    obtain ⟨n, hn⟩ : ∃ n, n = y.length := ⟨_, rfl⟩
    rw [← hn] at h hy hym ⊢
    rw [h] at hx ⊢
    have Hn := Lib.hid hn
    have HN := Lib.hid h
    clear h hn hxm
    go_wp2_with fail
    go_loopw [7] (fun t wr => ∃ k : Nat, k ≤ n ∧ t = .int .i64 ((k : Int) - 1) ∧ x.drop k = y.drop k ∧ Dr w wr)
      (fun t _ => (intOf t + 1).toNat)
    case atStart => exact ⟨n, by omega, by go_num, by rw [List.drop_of_length_le (by have := HN.out; omega), List.drop_of_length_le (by have := Hn.out; omega)], Dr.refl _⟩
    case round =>
      obtain ⟨k, hk, rfl, hd, nd, rfl⟩ := hrel
      have Hd := Lib.hid hd; clear hd
      by_cases h0 : 0 < k
      · obtain ⟨j, rfl⟩ : ∃ j, k = j + 1 := ⟨k - 1, by omega⟩
        obtain ⟨b, off, rfl, hcc⟩ := hx.cells (by have := HN.out; omega)
        obtain ⟨b', off', rfl, hcc'⟩ := hy.cells (by have := Hn.out; omega)
        have hcell := hcc j (by have := HN.out; omega)
        have hcell' := hcc' j (by have := Hn.out; omega)
        clear hcc hcc'
        have hj : 0 ≤ ((j + 1 : Nat) : Int) - 1 := by omega
        have hj2 : (1 : Int) ≤ ((j + 1 : Nat) : Int) := by omega
        have hj3 : (((j + 1 : Nat) : Int) - 1) = (j : Int) := by omega
        rw [hj3]
        have HJ := Lib.hid hj3
        clear hj hj2 hj3 h0
        rcases Int.lt_trichotomy (nth x j) (nth y j) with h | h | h
        · go_wp2_with fail
          go_quiet (fail)
          go_wp2_with fail
          go_ret
          exact ⟨by rw [ex.out, ey.out, cmpI_lt (top_lt vx j Hl.out (by have := HN.out; omega) Hd.out h)]; rfl, (by repeat (first | exact Dr.refl _ | apply Dr.drewN))⟩
        · have he := drop_step j Hl.out (by have := HN.out; omega) Hd.out h
          have h1 : ¬ nth x j < nth y j := by omega
          have h2 : ¬ nth y j < nth x j := by omega
          have He := Lib.hid he
          clear he h
          go_wp2_with fail
          go_quiet (fail)
          go_wp2_with fail
          go_quiet (fail)
          go_wp2_with fail
          go_roundw
          case rel => exact ⟨j, by omega, by go_num, He.out, (by repeat (first | exact Dr.refl _ | apply Dr.drewN))⟩
          case measure => simp [intOf]
        · have h1 : ¬ nth x j < nth y j := by omega
          go_wp2_with fail
          go_quiet (fail)
          go_wp2_with fail
          go_quiet (fail)
          go_wp2_with fail
          go_ret
          exact ⟨by rw [ex.out, ey.out, cmpI_gt (top_lt vy j Hl.out.symm (by have := Hn.out; omega) Hd.out.symm h)]; rfl, (by repeat (first | exact Dr.refl _ | apply Dr.drewN))⟩
      · obtain rfl : k = 0 := by omega
        go_wp2_with fail
        go_ret
        refine ⟨?_, ⟨nd, rfl⟩⟩
        have e := Hd.out
        simp only [List.drop_zero] at e
        rw [ex.out, ey.out, cmpI_eq (by rw [e])]
        rfl
  · have hv := canon_lt cy vy cx vx h
    go_wp2_with fail
    go_ret
    exact ⟨by rw [ex.out, ey.out, cmpI_gt hv]; rfl, Dr.refl _⟩

/-! ### Bits, Uint -/
set_option maxHeartbeats 800000 in
theorem Bits_c (a : Option Addr) (cap : Nat) (zs : List Int) (w : World) (hc : Sl .u32 w a cap zs) (ux : U32 zs) (hb : zs.length ≤ 288230376151711743) :
    Calls Tryd.prog 44 #[.slice a zs.length cap] w fun e w' => e = .returned (.int .i64 (bl (val zs))) ∧ w = w' := by
  go_enter Tryd.func44, Tryd.ntmps44
  go_wp2_with fail
  refine (value_c a cap zs _ hc).mono ?_; rintro e w' ⟨rfl, rfl⟩
  have hx := Sl.norm hc
  have ex := Lib.hid (val_norm zs).symm
  have cx := Canon.norm zs
  have vx := ux.norm
  have hl : (norm zs).length ≤ 288230376151711743 := by rw [length_norm]; have := topz_le zs; omega
  clear ux
  generalize norm zs = x at *
  by_cases h0 : x.length = 0
  · obtain rfl : x = [] := List.eq_nil_of_length_eq_zero h0
    go_wp2_with fail
    go_ret
    exact ⟨by rw [ex.out]; rfl, rfl⟩
  · obtain ⟨b, off, rfl, hcc⟩ := hx.cells (by omega)
    have hcell := hcc (x.length - 1) (by omega)
    have hbx := vx (x.length - 1)
    have hp : 0 < (x.length : Int) := by omega
    have h2 : ((x.length : Int) == 0) = false := beq_false_of_ne (by omega)
    have ev := Lib.hid (bl_val vx cx (by omega))
    clear hcc h0
    have hbl := bl_u32 _ hbx.1 hbx.2
    go_wp2_with (go_at_call 92; refine (Len32_c _ _ hbx.1 hbx.2).mono ?_; rintro e w' ⟨rfl, rfl⟩)
    go_ret
    refine ⟨?_, rfl⟩
    rw [ex.out, ev.out]
    exact congrArg Ending.returned (congrArg (Value.int .i64) (by show (32 * ((x.length : Int) - 1) + (bl (nth x (x.length - 1)).toNat : Int)) = _; unfold lb; omega))
end Go.Proofs.YtlolkighnnedfaaDoor
