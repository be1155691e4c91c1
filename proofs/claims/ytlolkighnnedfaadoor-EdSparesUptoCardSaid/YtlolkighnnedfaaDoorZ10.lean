import Derived.Test.YtlolkighnnedfaaDoorZ9
import Derived.Test.YtlolkighnnedfaaDoorZ1
/- package modn: Exp, half, by their contracts; numbers that lie somewhere. (Printed by gen_modb.py.) -/
set_option linter.unusedVariables false
set_option linter.unusedSimpArgs false
namespace Go.Proofs.YtlolkighnnedfaaDoor
open Go.RowKit Go.Sg

/-- A slice that reads as a number. -/
def NumAt (w : World) (v : Value) (n : Nat) : Prop := ∃ a c zs, v = .slice a zs.length c ∧ Sl .u32 w a c zs ∧ U32 zs ∧ val zs = n ∧ zs.length ≤ 17592186044415
theorem NumAt.below {w w' : World} {v : Value} {n : Nat} (h : NumAt w v n) (hb : Below w.heap.size w w') : NumAt w' v n := by
  obtain ⟨a, c, zs, e, s, u, hv, hl⟩ := h
  exact ⟨a, c, zs, e, s.below hb, u, hv, hl⟩
theorem NumAt.of {w : World} {a : Option Addr} {c : Nat} {zs : List Int} (s : Sl .u32 w a c zs) (u : U32 zs) (hl : zs.length ≤ 17592186044415) : NumAt w (.slice a zs.length c) (val zs) := ⟨a, c, zs, rfl, s, u, rfl, hl⟩
theorem NatRes.num {B : Nat} {w : World} {v : Value} {n k : Nat} (h : NatRes B w v n) (m : Lim k n) (hk : k ≤ 17592186044415) : NumAt w v n := by
  obtain ⟨a, c, zs, e, s, cz, u, hv⟩ := h.sl
  exact ⟨a, c, zs, e, s, u, hv, Nat.le_trans ((Lim.eq m hv).len cz u) hk⟩
theorem NatRes.below {B : Nat} {w w' : World} {v : Value} {n : Nat} (h : NatRes B w v n) (hb : Below w.heap.size w w') : NatRes B w' v n := by
  obtain ⟨z, h1, h2⟩ := h
  exact ⟨z, h1.keep hb, h2⟩

section
variable {v v' v'' : Value} {n m k : Nat} {W : World}
theorem rest_v (h : NumAt W v n) (h' : NumAt W v' m) (h0 : 0 < m) : Calls Tryd.prog 94 #[v, v'] W (NatPost (n % m) W) := by
  obtain ⟨a, c, zs, rfl, s, u, rfl, hl⟩ := h
  obtain ⟨a', c', zs', rfl, s', u', rfl, hl'⟩ := h'
  exact rest_c _ _ _ _ _ _ _ s s' u u' (by omega) (by omega) h0
theorem mul_v (h : NumAt W v n) (h' : NumAt W v' m) : Calls Tryd.prog 95 #[v, v'] W (NatPost (n * m) W) := by
  obtain ⟨a, c, zs, rfl, s, u, rfl, hl⟩ := h
  obtain ⟨a', c', zs', rfl, s', u', rfl, hl'⟩ := h'
  exact Mul_c _ _ _ _ _ _ _ s s' u u' (by omega) (by omega)
theorem add_v (h : NumAt W v n) (h' : NumAt W v' m) : Calls Tryd.prog 43 #[v, v'] W (NatPost (n + m) W) := by
  obtain ⟨a, c, zs, rfl, s, u, rfl, hl⟩ := h
  obtain ⟨a', c', zs', rfl, s', u', rfl, hl'⟩ := h'
  exact Add_c _ _ _ _ _ _ _ s s' u u' (by omega) (by omega)
theorem sub_v (h : NumAt W v n) (h' : NumAt W v' m) : Calls Tryd.prog 115 #[v, v'] W (SubPost n m W) := by
  obtain ⟨a, c, zs, rfl, s, u, rfl, hl⟩ := h
  obtain ⟨a', c', zs', rfl, s', u', rfl, hl'⟩ := h'
  exact Sub_c _ _ _ _ _ _ _ s s' u u' (by omega) (by omega)
theorem cmp_v (h : NumAt W v n) (h' : NumAt W v' m) : Calls Tryd.prog 25 #[v, v'] W (CmpPost (cmpI n m) W) := by
  obtain ⟨a, c, zs, rfl, s, u, rfl, hl⟩ := h
  obtain ⟨a', c', zs', rfl, s', u', rfl, hl'⟩ := h'
  exact Cmp_c _ _ _ _ _ _ _ s s' u u'
theorem div_v (h : NumAt W v n) (h' : NumAt W v' m) : Calls Tryd.prog 63 #[v, v'] W (DivPost n m W) := by
  obtain ⟨a, c, zs, rfl, s, u, rfl, hl⟩ := h
  obtain ⟨a', c', zs', rfl, s', u', rfl, hl'⟩ := h'
  exact DivMod_c _ _ _ _ _ _ _ s s' u u' (by omega) (by omega)
theorem minus_v (h : NumAt W v n) (h' : NumAt W v' m) (h'' : NumAt W v'' k) (h0 : m ≤ k) : Calls Tryd.prog 114 #[v, v', v''] W (NatPost (subM n m k) W) := by
  obtain ⟨a, c, zs, rfl, s, u, rfl, hl⟩ := h
  obtain ⟨a', c', zs', rfl, s', u', rfl, hl'⟩ := h'
  obtain ⟨a'', c'', zs'', rfl, s'', u'', rfl, hl''⟩ := h''
  exact minus_c _ _ _ _ _ _ _ _ _ _ s s' s'' u u' u'' hl hl' hl'' h0
theorem bits_v (h : NumAt W v n) : Calls Tryd.prog 44 #[v] W fun e w' => e = .returned (.int .i64 (bl n)) ∧ W = w' := by
  obtain ⟨a, c, zs, rfl, s, u, rfl, hl⟩ := h
  exact Bits_c _ _ _ _ s u (by omega)
theorem bit_v (h : NumAt W v n) (j : Nat) (hj : j ≤ 9223372036854775807) : Calls Tryd.prog 61 #[v, .int .i64 (j : Int)] W (BoolPost (decide (n / 2 ^ j % 2 = 1)) W) := by
  obtain ⟨a, c, zs, rfl, s, u, rfl, hl⟩ := h
  have := Bit_c _ _ _ (j : Int) _ s u ⟨by omega, by omega⟩
  rwa [bit_shr] at this
theorem bit0_v (h : NumAt W v n) : Calls Tryd.prog 61 #[v, .int .i64 0] W (BoolPost (decide (n % 2 = 1)) W) := by
  have := bit_v h 0 (by omega)
  rwa [Nat.pow_zero, Nat.div_one] at this
theorem shr1_v (h : NumAt W v n) : Calls Tryd.prog 103 #[v, .int .i64 1] W (NatPost (n / 2) W) := by
  obtain ⟨a, c, zs, rfl, s, u, rfl, hl⟩ := h
  have := Shr_k _ _ 1 _ _ s u (by omega) (by omega)
  rwa [Nat.pow_one] at this
end
theorem num_one (w : World) : NumAt (w.alloc (.cells #[.int .u32 1] 36)) (.slice (some ⟨w.heap.size, 0, none⟩) 1 1) 1 := by
  have hk : Blk (w.alloc (.cells #[.int .u32 1] 36)) w.heap.size .u32 36 [1] := cells_new .u32 w 36 [1] #[.int .u32 1] rfl _ rfl
  exact NumAt.of (hk.sl_full (by simp)) (.of_mem (by omega) (by simp)) (by simp)
theorem below_one (w : World) (o : Obj) : Below w.heap.size w (w.alloc o) := (Below.refl w.heap.size w).alloc (Nat.le_refl _) o

def ExpRel (A E m B S : Nat) (w : World) (v t : Value) (wr : World) : Prop := ∃ i : Nat, i ≤ B ∧ t = .int .i64 ((i : Int) - 1) ∧ NatRes S wr v (A ^ (E / 2 ^ i) % m) ∧ Below S w wr

set_option maxHeartbeats 4000000 in
theorem mExp_c (a a' a'' : Option Addr) (cap cap' cap'' : Nat) (xs ys zs : List Int) (w : World) (sx : Sl .u32 w a cap xs) (sy : Sl .u32 w a' cap' ys) (sz : Sl .u32 w a'' cap'' zs) (ux : U32 xs) (uy : U32 ys) (uz : U32 zs) (hl : xs.length ≤ 17592186044415) (hl' : ys.length ≤ 17592186044415) (hl'' : zs.length ≤ 17592186044415) :
    Calls Tryd.prog 123 #[.slice a xs.length cap, .slice a' ys.length cap', .slice a'' zs.length cap''] w (ModPost (wrongN [val xs, val ys, val zs]) (val xs ^ val ys % val zs) w) := by
  have nr := nrows_new w 27 [⟨a, cap, xs⟩, ⟨a', cap', ys⟩, ⟨a'', cap'', zs⟩] #[.slice a xs.length cap, .slice a' ys.length cap', .slice a'' zs.length cap''] rfl (by simp; exact ⟨sx, sy, sz⟩) (by simp; exact ⟨ux, uy, uz⟩) (by simp; omega)
  have wc := wrong_c w.heap.size 3 _ _ nr (by simp) (by simp)
  simp only [List.length_cons, List.length_nil, Nat.zero_add, Nat.reduceAdd, List.map_cons, List.map_nil, NPart.num] at wc
  have hok := fun h => wrongN_ok (ns := [val xs, val ys, val zs]) h
  simp only [List.mem_cons, List.not_mem_nil, or_false, forall_eq_or_imp, forall_eq, List.getLastD_cons, List.getLastD_nil] at hok
  obtain ⟨code, hcode⟩ : ∃ c, c = wrongN [val xs, val ys, val zs] := ⟨_, rfl⟩
  rw [← hcode] at wc hok ⊢
  have hb0 := (Below.refl w.heap.size w).alloc (Nat.le_refl _) (.cells #[.slice a xs.length cap, .slice a' ys.length cap', .slice a'' zs.length cap''] 27)
  clear nr hcode
  by_cases hc : code = 0
  · obtain ⟨⟨mx, my, mz⟩, h2⟩ := hok hc
    subst hc
    clear hok
    have nx := (NumAt.of sx ux hl).below hb0
    have ny := (NumAt.of sy uy hl').below hb0
    have nz := (NumAt.of sz uz hl'').below hb0
    obtain ⟨X, hX⟩ : ∃ X, X = val xs := ⟨_, rfl⟩
    obtain ⟨E, hE⟩ : ∃ E, E = val ys := ⟨_, rfl⟩
    obtain ⟨m, hm⟩ : ∃ m, m = val zs := ⟨_, rfl⟩
    rw [← hX] at nx mx ⊢
    rw [← hE] at ny my ⊢
    rw [← hm] at nz mz h2 ⊢
    clear hX hE hm sx sy sz
    go_enter Tryd.func123, Tryd.ntmps123
    go_wp2_with fail
    refine wc.mono ?_; rintro e w0 ⟨rfl, rfl⟩
    obtain ⟨w0, hw0⟩ : ∃ x, x = w.alloc (.cells #[.slice a xs.length cap, .slice a' ys.length cap', .slice a'' zs.length cap''] 27) := ⟨_, rfl⟩
    rw [← hw0] at hb0 nx ny nz ⊢
    clear wc hw0
    have hB := hb0
    clear hb0
    have hmp : 0 < m := by omega
    have HM := Lib.hid hmp
    clear h2 hmp
    go_wp2_with fail
    refine (rest_v nx nz HM.out).mono ?_; rintro e w1 ⟨vA, rfl, hn, hb⟩
    replace ny := ny.below hb
    replace nz := nz.below hb
    replace hB := hB.trans (hb.mono hB.size)
    obtain ⟨A, hA⟩ : ∃ A, A = X % m := ⟨_, rfl⟩
    rw [← hA] at hn
    have mA : Lim 128 A := by rw [hA]; exact mz.of_lt (Nat.mod_lt _ HM.out)
    have nA := hn.num mA (by omega)
    have fin : Hid (X ^ E % m = A ^ E % m) := Lib.hid (by rw [hA, ← Nat.pow_mod])
    clear hn hb nx hA
    have hb := below_one w1 (.cells #[.int .u32 1] 36)
    have n1 := num_one w1
    replace ny := ny.below hb
    replace nz := nz.below hb
    replace nA := nA.below hb
    replace hB := hB.trans (hb.mono hB.size)
    have hBs := hB.size
    clear hb
    go_wp2_with fail
    refine (rest_v n1 nz HM.out).mono ?_; rintro e w2 ⟨v2, rfl, hn, hb⟩
    replace ny := ny.below hb
    replace nz := nz.below hb
    replace nA := nA.below hb
    replace hB := hB.trans (hb.mono hB.size)
    replace hn := hn.mono hBs
    obtain ⟨B, hBB⟩ : ∃ B, B = bl E := ⟨_, rfl⟩
    have bc := bits_v ny
    rw [← hBB] at bc
    have hBl : B ≤ 4096 := by
      rw [hBB]
      have h3 := my.lt
      rw [Rpow_two] at h3
      have := (bl_le_iff E (32 * 128)).2 h3
      omega
    have hst : ExpRel A E m B w.heap.size w v2 (.int .i64 ((B : Int) - 1)) w2 := ⟨B, Nat.le_refl _, rfl, by rw [hBB, Nat.div_eq_of_lt (lt_bl E)]; exact hn, hB⟩
    clear hBB hn n1 hBs hb
    go_wp2_with fail
    refine bc.mono ?_; rintro e w' ⟨rfl, rfl⟩
    clear bc
    go_wp2_with fail
    go_loopw [9, 10] (fun v t wr => ExpRel A E m B w.heap.size w v t wr ∧ Below w2.heap.size w2 wr) (fun _ t _ => (intOf t + 1).toNat)
    case atStart => exact ⟨hst, .refl _ _⟩
    case round =>
      clear hst
      obtain ⟨⟨i, hi, rfl, hr, hb⟩, hb2⟩ := hrel
      have ny2 := ny.below hb2
      have nz2 := nz.below hb2
      have nA2 := nA.below hb2
      have lo := mz.of_lt (Nat.mod_lt (A ^ (E / 2 ^ i)) HM.out)
      have no := hr.num lo (by omega)
      have hbs := hb.size
      obtain ⟨wy, hwy⟩ : ∃ x : World, x = wr := ⟨_, rfl⟩
      subst hwy
      cases i with
      | zero =>
        have e1 : ((0 : Nat) : Int) - 1 = -1 := by omega
        rw [e1]
        rw [Nat.pow_zero, Nat.div_one] at hr
        rw [← fin.out] at hr
        clear no lo ny2 nz2 nA2 e1
        go_wp2_with fail
        go_ret2
        exact ⟨fun h => absurd rfl h, fun _ => ⟨_, rfl, hr⟩, hb⟩
      | succ j =>
        have e1 : ((j + 1 : Nat) : Int) - 1 = (j : Int) := by omega
        rw [e1]
        have E1 := Lib.hid e1
        obtain ⟨o, ho⟩ : ∃ o, o = A ^ (E / 2 ^ (j + 1)) % m := ⟨_, rfl⟩
        rw [← ho] at lo no
        have HO := Lib.hid ho
        have hj0 : (0 : Int) ≤ (j : Int) := by omega
        have hd0 : decide ((0 : Int) ≤ (j : Int)) = true := decide_eq_true hj0
        have hw1 : IntKind.i64.wrap ((j : Int) - 1) = (j : Int) - 1 := by rw [IntKind.wrap_i64]; omega
        clear hr e1 ho
        go_wp2_with fail
        refine (mul_v no no).mono ?_; rintro e w3 ⟨v3, rfl, hn, hb3⟩
        have n3 := hn.num (lo.mul lo) (by omega)
        replace ny2 := ny2.below hb3
        replace nz2 := nz2.below hb3
        replace nA2 := nA2.below hb3
        replace hb := hb.trans (hb3.mono hb.size)
        have hb2' := hb2.trans (hb3.mono hb2.size)
        clear hn hb3 no hb2
        go_wp2_with fail
        refine (rest_v n3 nz2 HM.out).mono ?_; rintro e w4 ⟨v4, rfl, hn, hb4⟩
        have l4 := mz.of_lt (Nat.mod_lt (o * o) HM.out)
        have n4 := hn.num l4 (by omega)
        have r4 := hn.mono hb.size
        replace ny2 := ny2.below hb4
        replace nz2 := nz2.below hb4
        replace nA2 := nA2.below hb4
        replace hb := hb.trans (hb4.mono hb.size)
        replace hb2' := hb2'.trans (hb4.mono hb2'.size)
        clear hn hb4 n3
        have bc := bit_v ny2 j (by omega)
        obtain ⟨bt, hbt⟩ : ∃ bt, bt = E / 2 ^ j % 2 := ⟨_, rfl⟩
        rw [← hbt] at bc
        by_cases hb1 : bt = 1
        · rw [show decide (bt = 1) = true from decide_eq_true hb1] at bc
          have fin2 : Hid (o * o % m * A % m = A ^ (E / 2 ^ j) % m) := Lib.hid (by rw [HO.out]; exact pow_bit1 A E j m (by rw [← hbt, hb1]))
          clear hbt hb1
          go_wp2_with fail
          refine bc.mono ?_; rintro e w5 ⟨rfl, hd⟩
          replace nz2 := nz2.below hd.b
          replace nA2 := nA2.below hd.b
          replace n4 := n4.below hd.b
          replace hb := hb.trans (hd.b.mono hb.size)
          replace hb2' := hb2'.trans (hd.b.mono hb2'.size)
          clear bc hd r4
          go_wp2_with fail
          refine (mul_v n4 nA2).mono ?_; rintro e w6 ⟨v6, rfl, hn, hb6⟩
          have n6 := hn.num (l4.mul mA) (by omega)
          replace nz2 := nz2.below hb6
          replace hb := hb.trans (hb6.mono hb.size)
          replace hb2' := hb2'.trans (hb6.mono hb2'.size)
          clear hn hb6 n4
          go_wp2_with fail
          refine (rest_v n6 nz2 HM.out).mono ?_; rintro e w7 ⟨v7, rfl, hn, hb7⟩
          have r7 := hn.mono hb.size
          rw [fin2.out] at r7
          replace hb := hb.trans (hb7.mono hb.size)
          replace hb2' := hb2'.trans (hb7.mono hb2'.size)
          clear hn hb7 n6
          go_wp2_with fail
          go_roundw
          case rel => exact ⟨⟨j, by omega, rfl, r7, hb⟩, hb2'⟩
          case measure => simp [intOf]
        · rw [show decide (bt = 1) = false from decide_eq_false hb1] at bc
          have fin2 : Hid (o * o % m = A ^ (E / 2 ^ j) % m) := Lib.hid (by rw [HO.out]; exact pow_bit0 A E j m (by omega))
          clear hbt hb1
          rw [fin2.out] at r4
          go_wp2_with fail
          refine bc.mono ?_; rintro e w5 ⟨rfl, hd⟩
          have r5 := r4.below hd.b
          replace hb := hb.trans (hd.b.mono hb.size)
          replace hb2' := hb2'.trans (hd.b.mono hb2'.size)
          clear bc hd r4
          go_wp2_with fail
          go_roundw
          case rel => exact ⟨⟨j, by omega, rfl, r5, hb⟩, hb2'⟩
          case measure => simp [intOf]
  · have hne : (code != 0) = true := by simpa using hc
    have HC := Lib.hid hc
    clear hok hc
    go_enter Tryd.func123, Tryd.ntmps123
    go_wp2_with fail
    refine wc.mono ?_; rintro e w0 ⟨rfl, rfl⟩
    clear wc
    go_wp2_with fail
    go_ret2
    exact ⟨fun _ => rfl, fun h => absurd h HC.out, hb0⟩

set_option maxHeartbeats 2000000 in
theorem half_v {v v' : Value} {n m : Nat} {W : World} (h : NumAt W v n) (h' : NumAt W v' m) (mn : Lim 128 n) (mm : Lim 128 m) : Calls Tryd.prog 139 #[v, v'] W (NatPost (halfM n m) W) := by
  have bc := bit0_v h
  by_cases ho : n % 2 = 1
  · have e : Hid (halfM n m = (n + m) / 2) := Lib.hid (if_pos ho)
    rw [show decide (n % 2 = 1) = true from decide_eq_true ho] at bc
    clear ho
    go_enter Tryd.func139, Tryd.ntmps139
    go_wp2_with fail
    refine bc.mono ?_; rintro e1 w1 ⟨rfl, hd⟩
    replace h := h.below hd.b
    replace h' := h'.below hd.b
    clear bc
    go_wp2_with fail
    refine (add_v h h').mono ?_; rintro e1 w2 ⟨v2, rfl, hn, hb⟩
    have n2 := hn.num (mn.add mm) (by omega)
    have hB := hd.b.trans (hb.mono hd.b.size)
    clear hn hb hd
    go_wp2_with fail
    refine (shr1_v n2).mono ?_; rintro e1 w3 ⟨v3, rfl, hn, hb⟩
    rw [← e.out] at hn
    have r := hn.mono hB.size
    have hB2 := hB.trans (hb.mono hB.size)
    clear hn hb hB
    go_wp2_with fail
    go_ret
    exact ⟨_, rfl, r, hB2⟩
  · have e : Hid (halfM n m = n / 2) := Lib.hid (if_neg ho)
    rw [show decide (n % 2 = 1) = false from decide_eq_false ho] at bc
    clear ho
    go_enter Tryd.func139, Tryd.ntmps139
    go_wp2_with fail
    refine bc.mono ?_; rintro e1 w1 ⟨rfl, hd⟩
    replace h := h.below hd.b
    clear bc
    go_wp2_with fail
    refine (shr1_v h).mono ?_; rintro e1 w3 ⟨v3, rfl, hn, hb⟩
    rw [← e.out] at hn
    have r := hn.mono hd.b.size
    have hB2 := hd.b.trans (hb.mono hd.b.size)
    clear hn hb hd
    go_wp2_with fail
    go_ret
    exact ⟨_, rfl, r, hB2⟩
end Go.Proofs.YtlolkighnnedfaaDoor
/- Bytes and the number they say, there and back. No program in sight. -/
set_option linter.unusedVariables false
set_option linter.unusedSimpArgs false
namespace Go.Sg
open Go.RowKit

theorem byt_down_one (n j : Nat) : byt n (j + 1) = byt (n / 256) j := by
  unfold byt
  rw [Nat.div_div_eq_div_mul, Nat.pow_succ, Nat.mul_comm 256]
theorem beN_succ (n len : Nat) : beN n (len + 1) = beN (n / 256) len ++ [((n % 256 : Nat) : Int)] := by
  apply ext_nth
  · simp [beN_len]
  · intro i hi
    rw [beN_len] at hi
    rw [nth_beN hi]
    by_cases h : i < len
    · rw [nth_append_left _ _ _ (by rw [beN_len]; exact h), nth_beN h, ← byt_down_one, show len + 1 - 1 - i = len - 1 - i + 1 by omega]
    · obtain rfl : i = len := by omega
      have e := nth_append_right (beN (n / 256) i) [((n % 256 : Nat) : Int)] 0
      rw [beN_len, Nat.add_zero] at e
      rw [e, show i + 1 - 1 - i = 0 by omega]
      simp [nth, byt]
theorem bval_beN : ∀ (len n : Nat), n < 256 ^ len → bval (beN n len) = n
  | 0, n, h => by
    have : n = 0 := by simpa using h
    subst this; rfl
  | len + 1, n, h => by
    rw [beN_succ, bval_snoc, bval_beN len (n / 256) (by rw [Nat.div_lt_iff_lt_mul (by decide)]; rwa [Nat.pow_succ] at h)]
    simp only [Int.toNat_natCast]
    omega
theorem beN_bval : ∀ (k : Nat) (bs : List Int), bs.length = k → U8 bs → beN (bval bs) k = bs
  | 0, bs, h, _ => by
    have : bs = [] := List.eq_nil_of_length_eq_zero h
    subst this; rfl
  | k + 1, bs, h, u => by
    have e : bs = bs.take k ++ [nth bs k] := by
      rw [← take_succ_nth _ _ (by omega), List.take_of_length_le (by omega)]
    have hx := u k
    have hl : (bs.take k).length = k := by rw [List.length_take]; omega
    have ih := beN_bval k (bs.take k) hl (u.take (by omega) _)
    rw [e, bval_snoc, beN_succ]
    rw [show (bval (bs.take k) * 256 + (nth bs k).toNat) / 256 = bval (bs.take k) by omega, ih]
    congr 2
    omega
theorem bval_zeros (n : Nat) : bval (List.replicate n 0) = 0 := by
  induction n with
  | zero => rfl
  | succ n ih => rw [List.replicate_succ', bval_snoc, ih]; rfl
theorem lead_split (bs : List Int) (a : Nat) (h : a ≤ bs.length) (h0 : ∀ j, j < a → nth bs j = 0) : bs = List.replicate a 0 ++ bs.drop a := by
  apply ext_nth
  · simp; omega
  · intro i hi
    by_cases h2 : i < a
    · rw [nth_append_left _ _ _ (by simpa using h2), h0 i h2, nth_replicate _ _ _ h2]
    · have e := nth_append_right (List.replicate a 0) (bs.drop a) (i - a)
      rw [List.length_replicate, show a + (i - a) = i by omega] at e
      rw [e, nth_drop, show a + (i - a) = i by omega]
theorem bval_drop_lead (bs : List Int) (a : Nat) (h : a ≤ bs.length) (h0 : ∀ j, j < a → nth bs j = 0) : bval (bs.drop a) = bval bs := by
  have e := lead_split bs a h h0
  have e2 := congrArg bval e
  rw [bval_append, bval_zeros] at e2
  omega
/-- The least bytes of what these bytes say: they themselves, without the noughts ahead. -/
theorem beN_lead {bs : List Int} (u : U8 bs) {a : Nat} (h : a ≤ bs.length) (h0 : ∀ j, j < a → nth bs j = 0) (h1 : a = bs.length ∨ nth bs a ≠ 0) : beN (bval bs) (blen (bval bs)) = bs.drop a := by
  rw [← bval_drop_lead bs a h h0]
  obtain ⟨d, hd⟩ : ∃ d, d = bs.drop a := ⟨_, rfl⟩
  have ud : U8 d := by rw [hd]; exact u.drop (by omega) _
  have hl : d.length = bs.length - a := by rw [hd, List.length_drop]
  rw [← hd]
  rcases h1 with h1 | h1
  · have : d = [] := List.eq_nil_of_length_eq_zero (by omega)
    subst this; rfl
  · have hal : a < bs.length := by
      refine Nat.lt_of_not_le fun h2 => h1 (nth_out _ _ h2)
    obtain ⟨m, hm⟩ : ∃ m, d.length = m + 1 := ⟨d.length - 1, by omega⟩
    have hb := beN_bval (m + 1) d hm ud
    have h2 : byt (bval d) m ≠ 0 := by
      intro h3
      have e := nth_beN (n := bval d) (len := m + 1) (i := 0) (by omega)
      rw [hb, show m + 1 - 1 - 0 = m by omega, h3, hd, nth_drop, Nat.add_zero] at e
      exact h1 e
    rw [byt_stop (by rw [← hm]; exact bval_lt ud) h2]
    exact hb
theorem bval_bytes (n : Nat) : bval (beN n (blen n)) = n := bval_beN _ _ (lt_blen n)
theorem fits_lt {n m : Nat} (h : blen n ≤ m) : n < 256 ^ m := Nat.lt_of_lt_of_le (lt_blen n) (Nat.pow_le_pow_right (by decide) h)
theorem mod_bl (n k : Nat) : bl (n % 2 ^ k) ≤ k := (bl_le_iff _ _).2 (Nat.mod_lt _ (Nat.pow_pos (by decide)))
theorem pow_lim {k n : Nat} (h : k < 32 * n) : Lim n (2 ^ k) := ⟨by
  rw [Rpow_two]
  exact Nat.pow_lt_pow_right (by decide) h⟩
end Go.Sg
