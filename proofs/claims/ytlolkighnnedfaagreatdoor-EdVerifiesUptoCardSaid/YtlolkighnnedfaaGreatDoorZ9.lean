import Derived.Test.YtlolkighnnedfaaGreatDoorZ8
/- package modn: Exp, half, by their contracts; numbers that lie somewhere. (Printed by gen_modb.py.) -/
set_option linter.unusedVariables false
set_option linter.unusedSimpArgs false
namespace Go.Proofs.YtlolkighnnedfaaGreatDoor
open Go.RowKit Go.Sg

/-- A slice that reads as a number. -/
def NumAt (w : World) (v : Value) (n : Nat) : Prop := ∃ a c zs, v = .slice a zs.length c ∧ Sl .u32 w a c zs ∧ U32 zs ∧ val zs = n ∧ zs.length ≤ 17592186044415
theorem NumAt.below {w w' : World} {v : Value} {n : Nat} (h : NumAt w v n) (hb : Below w.heap.size w w') : NumAt w' v n := by
  obtain ⟨a, c, zs, e, s, u, hv, hl⟩ := h
  exact ⟨a, c, zs, e, s.below hb, u, hv, hl⟩
theorem NumAt.of {w : World} {a : Option Addr} {c : Nat} {zs : List Int} (s : Sl .u32 w a c zs) (u : U32 zs) (hl : zs.length ≤ 17592186044415) : NumAt w (.slice a zs.length c) (val zs) := ⟨a, c, zs, rfl, s, u, rfl, hl⟩
theorem NatRes.num {B : Nat} {w : World} {v : Value} {n k : Nat} (h : NatRes B w v n) (m : Lim k n) (hk : k ≤ 17592186044415) : NumAt w v n := by
  obtain ⟨a, c, zs, e, s, cz, u, hv⟩ := h.sl
  exact ⟨a, c, zs, e, s, u, hv, Nat.le_trans ((Lim.eq m hv).len cz u) hk⟩
theorem NatRes.below {B : Nat} {w w' : World} {v : Value} {n : Nat} (h : NatRes B w v n) (hb : Below w.heap.size w w') : NatRes B w' v n := by
  obtain ⟨z, h1, h2⟩ := h
  exact ⟨z, h1.keep hb, h2⟩

section
variable {v v' v'' : Value} {n m k : Nat} {W : World}
theorem rest_v (h : NumAt W v n) (h' : NumAt W v' m) (h0 : 0 < m) : Calls Tryz.prog 94 #[v, v'] W (NatPost (n % m) W) := by
  obtain ⟨a, c, zs, rfl, s, u, rfl, hl⟩ := h
  obtain ⟨a', c', zs', rfl, s', u', rfl, hl'⟩ := h'
  exact rest_c _ _ _ _ _ _ _ s s' u u' (by omega) (by omega) h0
theorem mul_v (h : NumAt W v n) (h' : NumAt W v' m) : Calls Tryz.prog 109 #[v, v'] W (NatPost (n * m) W) := by
  obtain ⟨a, c, zs, rfl, s, u, rfl, hl⟩ := h
  obtain ⟨a', c', zs', rfl, s', u', rfl, hl'⟩ := h'
  exact Mul_c _ _ _ _ _ _ _ s s' u u' (by omega) (by omega)
theorem add_v (h : NumAt W v n) (h' : NumAt W v' m) : Calls Tryz.prog 80 #[v, v'] W (NatPost (n + m) W) := by
  obtain ⟨a, c, zs, rfl, s, u, rfl, hl⟩ := h
  obtain ⟨a', c', zs', rfl, s', u', rfl, hl'⟩ := h'
  exact Add_c _ _ _ _ _ _ _ s s' u u' (by omega) (by omega)
theorem sub_v (h : NumAt W v n) (h' : NumAt W v' m) : Calls Tryz.prog 108 #[v, v'] W (SubPost n m W) := by
  obtain ⟨a, c, zs, rfl, s, u, rfl, hl⟩ := h
  obtain ⟨a', c', zs', rfl, s', u', rfl, hl'⟩ := h'
  exact Sub_c _ _ _ _ _ _ _ s s' u u' (by omega) (by omega)
theorem cmp_v (h : NumAt W v n) (h' : NumAt W v' m) : Calls Tryz.prog 10 #[v, v'] W (CmpPost (cmpI n m) W) := by
  obtain ⟨a, c, zs, rfl, s, u, rfl, hl⟩ := h
  obtain ⟨a', c', zs', rfl, s', u', rfl, hl'⟩ := h'
  exact Cmp_c _ _ _ _ _ _ _ s s' u u'
theorem div_v (h : NumAt W v n) (h' : NumAt W v' m) : Calls Tryz.prog 12 #[v, v'] W (DivPost n m W) := by
  obtain ⟨a, c, zs, rfl, s, u, rfl, hl⟩ := h
  obtain ⟨a', c', zs', rfl, s', u', rfl, hl'⟩ := h'
  exact DivMod_c _ _ _ _ _ _ _ s s' u u' (by omega) (by omega)
theorem minus_v (h : NumAt W v n) (h' : NumAt W v' m) (h'' : NumAt W v'' k) (h0 : m ≤ k) : Calls Tryz.prog 93 #[v, v', v''] W (NatPost (subM n m k) W) := by
  obtain ⟨a, c, zs, rfl, s, u, rfl, hl⟩ := h
  obtain ⟨a', c', zs', rfl, s', u', rfl, hl'⟩ := h'
  obtain ⟨a'', c'', zs'', rfl, s'', u'', rfl, hl''⟩ := h''
  exact minus_c _ _ _ _ _ _ _ _ _ _ s s' s'' u u' u'' hl hl' hl'' h0
theorem bits_v (h : NumAt W v n) : Calls Tryz.prog 55 #[v] W fun e w' => e = .returned (.int .i64 (bl n)) ∧ W = w' := by
  obtain ⟨a, c, zs, rfl, s, u, rfl, hl⟩ := h
  exact Bits_c _ _ _ _ s u (by omega)
theorem bit_v (h : NumAt W v n) (j : Nat) (hj : j ≤ 9223372036854775807) : Calls Tryz.prog 57 #[v, .int .i64 (j : Int)] W (BoolPost (decide (n / 2 ^ j % 2 = 1)) W) := by
  obtain ⟨a, c, zs, rfl, s, u, rfl, hl⟩ := h
  have := Bit_c _ _ _ (j : Int) _ s u ⟨by omega, by omega⟩
  rwa [bit_shr] at this
theorem bit0_v (h : NumAt W v n) : Calls Tryz.prog 57 #[v, .int .i64 0] W (BoolPost (decide (n % 2 = 1)) W) := by
  have := bit_v h 0 (by omega)
  rwa [Nat.pow_zero, Nat.div_one] at this
theorem shr1_v (h : NumAt W v n) : Calls Tryz.prog 79 #[v, .int .i64 1] W (NatPost (n / 2) W) := by
  obtain ⟨a, c, zs, rfl, s, u, rfl, hl⟩ := h
  have := Shr_k _ _ 1 _ _ s u (by omega) (by omega)
  rwa [Nat.pow_one] at this
end
theorem num_one (w : World) : NumAt (w.alloc (.cells #[.int .u32 1] 64)) (.slice (some ⟨w.heap.size, 0, none⟩) 1 1) 1 := by
  have hk : Blk (w.alloc (.cells #[.int .u32 1] 64)) w.heap.size .u32 64 [1] := cells_new .u32 w 64 [1] #[.int .u32 1] rfl _ rfl
  exact NumAt.of (hk.sl_full (by simp)) (.of_mem (by omega) (by simp)) (by simp)
theorem below_one (w : World) (o : Obj) : Below w.heap.size w (w.alloc o) := (Below.refl w.heap.size w).alloc (Nat.le_refl _) o

def ExpRel (A E m B S : Nat) (w : World) (v t : Value) (wr : World) : Prop := ∃ i : Nat, i ≤ B ∧ t = .int .i64 ((i : Int) - 1) ∧ NatRes S wr v (A ^ (E / 2 ^ i) % m) ∧ Below S w wr

set_option maxHeartbeats 4000000 in
theorem mExp_c (a a' a'' : Option Addr) (cap cap' cap'' : Nat) (xs ys zs : List Int) (w : World) (sx : Sl .u32 w a cap xs) (sy : Sl .u32 w a' cap' ys) (sz : Sl .u32 w a'' cap'' zs) (ux : U32 xs) (uy : U32 ys) (uz : U32 zs) (hl : xs.length ≤ 17592186044415) (hl' : ys.length ≤ 17592186044415) (hl'' : zs.length ≤ 17592186044415) :
    Calls Tryz.prog 103 #[.slice a xs.length cap, .slice a' ys.length cap', .slice a'' zs.length cap''] w (ModPost (wrongN [val xs, val ys, val zs]) (val xs ^ val ys % val zs) w) := by
  have nr := nrows_new w 29 [⟨a, cap, xs⟩, ⟨a', cap', ys⟩, ⟨a'', cap'', zs⟩] #[.slice a xs.length cap, .slice a' ys.length cap', .slice a'' zs.length cap''] rfl (by simp; exact ⟨sx, sy, sz⟩) (by simp; exact ⟨ux, uy, uz⟩) (by simp; omega)
  have wc := wrong_c w.heap.size 3 _ _ nr (by simp) (by simp)
  simp only [List.length_cons, List.length_nil, Nat.zero_add, Nat.reduceAdd, List.map_cons, List.map_nil, NPart.num] at wc
  have hok := fun h => wrongN_ok (ns := [val xs, val ys, val zs]) h
  simp only [List.mem_cons, List.not_mem_nil, or_false, forall_eq_or_imp, forall_eq, List.getLastD_cons, List.getLastD_nil] at hok
  obtain ⟨code, hcode⟩ : ∃ c, c = wrongN [val xs, val ys, val zs] := ⟨_, rfl⟩
  rw [← hcode] at wc hok ⊢
  have hb0 := (Below.refl w.heap.size w).alloc (Nat.le_refl _) (.cells #[.slice a xs.length cap, .slice a' ys.length cap', .slice a'' zs.length cap''] 29)
  clear nr hcode
  by_cases hc : code = 0
  · obtain ⟨⟨mx, my, mz⟩, h2⟩ := hok hc
    subst hc
    clear hok
    have nx := (NumAt.of sx ux hl).below hb0
    have ny := (NumAt.of sy uy hl').below hb0
    have nz := (NumAt.of sz uz hl'').below hb0
    obtain ⟨X, hX⟩ : ∃ X, X = val xs := ⟨_, rfl⟩
    obtain ⟨E, hE⟩ : ∃ E, E = val ys := ⟨_, rfl⟩
    obtain ⟨m, hm⟩ : ∃ m, m = val zs := ⟨_, rfl⟩
    rw [← hX] at nx mx ⊢
    rw [← hE] at ny my ⊢
    rw [← hm] at nz mz h2 ⊢
    clear hX hE hm sx sy sz
    go_enter Tryz.func103, Tryz.ntmps103
    go_wp2_with fail
    refine wc.mono ?_; rintro e w0 ⟨rfl, rfl⟩
    obtain ⟨w0, hw0⟩ : ∃ x, x = w.alloc (.cells #[.slice a xs.length cap, .slice a' ys.length cap', .slice a'' zs.length cap''] 29) := ⟨_, rfl⟩
    rw [← hw0] at hb0 nx ny nz ⊢
    clear wc hw0
    have hB := hb0
    clear hb0
    have hmp : 0 < m := by omega
    have HM := Lib.hid hmp
    clear h2 hmp
    go_wp2_with fail
    refine (rest_v nx nz HM.out).mono ?_; rintro e w1 ⟨vA, rfl, hn, hb⟩
    replace ny := ny.below hb
    replace nz := nz.below hb
    replace hB := hB.trans (hb.mono hB.size)
    obtain ⟨A, hA⟩ : ∃ A, A = X % m := ⟨_, rfl⟩
    rw [← hA] at hn
    have mA : Lim 128 A := by rw [hA]; exact mz.of_lt (Nat.mod_lt _ HM.out)
    have nA := hn.num mA (by omega)
    have fin : Hid (X ^ E % m = A ^ E % m) := Lib.hid (by rw [hA, ← Nat.pow_mod])
    clear hn hb nx hA
    have hb := below_one w1 (.cells #[.int .u32 1] 64)
    have n1 := num_one w1
    replace ny := ny.below hb
    replace nz := nz.below hb
    replace nA := nA.below hb
    replace hB := hB.trans (hb.mono hB.size)
    have hBs := hB.size
    clear hb
    go_wp2_with fail
    refine (rest_v n1 nz HM.out).mono ?_; rintro e w2 ⟨v2, rfl, hn, hb⟩
    replace ny := ny.below hb
    replace nz := nz.below hb
    replace nA := nA.below hb
    replace hB := hB.trans (hb.mono hB.size)
    replace hn := hn.mono hBs
    obtain ⟨B, hBB⟩ : ∃ B, B = bl E := ⟨_, rfl⟩
    have bc := bits_v ny
    rw [← hBB] at bc
    have hBl : B ≤ 4096 := by
      rw [hBB]
      have h3 := my.lt
      rw [Rpow_two] at h3
      have := (bl_le_iff E (32 * 128)).2 h3
      omega
    have hst : ExpRel A E m B w.heap.size w v2 (.int .i64 ((B : Int) - 1)) w2 := ⟨B, Nat.le_refl _, rfl, by rw [hBB, Nat.div_eq_of_lt (lt_bl E)]; exact hn, hB⟩
    clear hBB hn n1 hBs hb
    go_wp2_with fail
    refine bc.mono ?_; rintro e w' ⟨rfl, rfl⟩
    clear bc
    go_wp2_with fail
    go_loopw [9, 10] (fun v t wr => ExpRel A E m B w.heap.size w v t wr ∧ Below w2.heap.size w2 wr) (fun _ t _ => (intOf t + 1).toNat)
    case atStart => exact ⟨hst, .refl _ _⟩
    case round =>
      clear hst
      obtain ⟨⟨i, hi, rfl, hr, hb⟩, hb2⟩ := hrel
      have ny2 := ny.below hb2
      have nz2 := nz.below hb2
      have nA2 := nA.below hb2
      have lo := mz.of_lt (Nat.mod_lt (A ^ (E / 2 ^ i)) HM.out)
      have no := hr.num lo (by omega)
      have hbs := hb.size
      obtain ⟨wy, hwy⟩ : ∃ x : World, x = wr := ⟨_, rfl⟩
      subst hwy
      cases i with
      | zero =>
        have e1 : ((0 : Nat) : Int) - 1 = -1 := by omega
        rw [e1]
        rw [Nat.pow_zero, Nat.div_one] at hr
        rw [← fin.out] at hr
        clear no lo ny2 nz2 nA2 e1
        go_wp2_with fail
        go_ret2
        exact ⟨fun h => absurd rfl h, fun _ => ⟨_, rfl, hr⟩, hb⟩
      | succ j =>
        have e1 : ((j + 1 : Nat) : Int) - 1 = (j : Int) := by omega
        rw [e1]
        have E1 := Lib.hid e1
        obtain ⟨o, ho⟩ : ∃ o, o = A ^ (E / 2 ^ (j + 1)) % m := ⟨_, rfl⟩
        rw [← ho] at lo no
        have HO := Lib.hid ho
        have hj0 : (0 : Int) ≤ (j : Int) := by omega
        have hd0 : decide ((0 : Int) ≤ (j : Int)) = true := decide_eq_true hj0
        have hw1 : IntKind.i64.wrap ((j : Int) - 1) = (j : Int) - 1 := by rw [IntKind.wrap_i64]; omega
        clear hr e1 ho
        go_wp2_with fail
        refine (mul_v no no).mono ?_; rintro e w3 ⟨v3, rfl, hn, hb3⟩
        have n3 := hn.num (lo.mul lo) (by omega)
        replace ny2 := ny2.below hb3
        replace nz2 := nz2.below hb3
        replace nA2 := nA2.below hb3
        replace hb := hb.trans (hb3.mono hb.size)
        have hb2' := hb2.trans (hb3.mono hb2.size)
        clear hn hb3 no hb2
        go_wp2_with fail
        refine (rest_v n3 nz2 HM.out).mono ?_; rintro e w4 ⟨v4, rfl, hn, hb4⟩
        have l4 := mz.of_lt (Nat.mod_lt (o * o) HM.out)
        have n4 := hn.num l4 (by omega)
        have r4 := hn.mono hb.size
        replace ny2 := ny2.below hb4
        replace nz2 := nz2.below hb4
        replace nA2 := nA2.below hb4
        replace hb := hb.trans (hb4.mono hb.size)
        replace hb2' := hb2'.trans (hb4.mono hb2'.size)
        clear hn hb4 n3
        have bc := bit_v ny2 j (by omega)
        obtain ⟨bt, hbt⟩ : ∃ bt, bt = E / 2 ^ j % 2 := ⟨_, rfl⟩
        rw [← hbt] at bc
        by_cases hb1 : bt = 1
        · rw [show decide (bt = 1) = true from decide_eq_true hb1] at bc
          have fin2 : Hid (o * o % m * A % m = A ^ (E / 2 ^ j) % m) := Lib.hid (by rw [HO.out]; exact pow_bit1 A E j m (by rw [← hbt, hb1]))
          clear hbt hb1
          go_wp2_with fail
          refine bc.mono ?_; rintro e w5 ⟨rfl, hd⟩
          replace nz2 := nz2.below hd.b
          replace nA2 := nA2.below hd.b
          replace n4 := n4.below hd.b
          replace hb := hb.trans (hd.b.mono hb.size)
          replace hb2' := hb2'.trans (hd.b.mono hb2'.size)
          clear bc hd r4
          go_wp2_with fail
          refine (mul_v n4 nA2).mono ?_; rintro e w6 ⟨v6, rfl, hn, hb6⟩
          have n6 := hn.num (l4.mul mA) (by omega)
          replace nz2 := nz2.below hb6
          replace hb := hb.trans (hb6.mono hb.size)
          replace hb2' := hb2'.trans (hb6.mono hb2'.size)
          clear hn hb6 n4
          go_wp2_with fail
          refine (rest_v n6 nz2 HM.out).mono ?_; rintro e w7 ⟨v7, rfl, hn, hb7⟩
          have r7 := hn.mono hb.size
          rw [fin2.out] at r7
          replace hb := hb.trans (hb7.mono hb.size)
          replace hb2' := hb2'.trans (hb7.mono hb2'.size)
          clear hn hb7 n6
          go_wp2_with fail
          go_roundw
          case rel => exact ⟨⟨j, by omega, rfl, r7, hb⟩, hb2'⟩
          case measure => simp [intOf]
        · rw [show decide (bt = 1) = false from decide_eq_false hb1] at bc
          have fin2 : Hid (o * o % m = A ^ (E / 2 ^ j) % m) := Lib.hid (by rw [HO.out]; exact pow_bit0 A E j m (by omega))
          clear hbt hb1
          rw [fin2.out] at r4
          go_wp2_with fail
          refine bc.mono ?_; rintro e w5 ⟨rfl, hd⟩
          have r5 := r4.below hd.b
          replace hb := hb.trans (hd.b.mono hb.size)
          replace hb2' := hb2'.trans (hd.b.mono hb2'.size)
          clear bc hd r4
          go_wp2_with fail
          go_roundw
          case rel => exact ⟨⟨j, by omega, rfl, r5, hb⟩, hb2'⟩
          case measure => simp [intOf]
  · have hne : (code != 0) = true := by simpa using hc
    have HC := Lib.hid hc
    clear hok hc
    go_enter Tryz.func103, Tryz.ntmps103
    go_wp2_with fail
    refine wc.mono ?_; rintro e w0 ⟨rfl, rfl⟩
    clear wc
    go_wp2_with fail
    go_ret2
    exact ⟨fun _ => rfl, fun h => absurd h HC.out, hb0⟩

set_option maxHeartbeats 2000000 in
theorem half_v {v v' : Value} {n m : Nat} {W : World} (h : NumAt W v n) (h' : NumAt W v' m) (mn : Lim 128 n) (mm : Lim 128 m) : Calls Tryz.prog 114 #[v, v'] W (NatPost (halfM n m) W) := by
  have bc := bit0_v h
  by_cases ho : n % 2 = 1
  · have e : Hid (halfM n m = (n + m) / 2) := Lib.hid (if_pos ho)
    rw [show decide (n % 2 = 1) = true from decide_eq_true ho] at bc
    clear ho
    go_enter Tryz.func114, Tryz.ntmps114
    go_wp2_with fail
    refine bc.mono ?_; rintro e1 w1 ⟨rfl, hd⟩
    replace h := h.below hd.b
    replace h' := h'.below hd.b
    clear bc
    go_wp2_with fail
    refine (add_v h h').mono ?_; rintro e1 w2 ⟨v2, rfl, hn, hb⟩
    have n2 := hn.num (mn.add mm) (by omega)
    have hB := hd.b.trans (hb.mono hd.b.size)
    clear hn hb hd
    go_wp2_with fail
    refine (shr1_v n2).mono ?_; rintro e1 w3 ⟨v3, rfl, hn, hb⟩
    rw [← e.out] at hn
    have r := hn.mono hB.size
    have hB2 := hB.trans (hb.mono hB.size)
    clear hn hb hB
    go_wp2_with fail
    go_ret
    exact ⟨_, rfl, r, hB2⟩
  · have e : Hid (halfM n m = n / 2) := Lib.hid (if_neg ho)
    rw [show decide (n % 2 = 1) = false from decide_eq_false ho] at bc
    clear ho
    go_enter Tryz.func114, Tryz.ntmps114
    go_wp2_with fail
    refine bc.mono ?_; rintro e1 w1 ⟨rfl, hd⟩
    replace h := h.below hd.b
    clear bc
    go_wp2_with fail
    refine (shr1_v h).mono ?_; rintro e1 w3 ⟨v3, rfl, hn, hb⟩
    rw [← e.out] at hn
    have r := hn.mono hd.b.size
    have hB2 := hd.b.trans (hb.mono hd.b.size)
    clear hn hb hd
    go_wp2_with fail
    go_ret
    exact ⟨_, rfl, r, hB2⟩
end Go.Proofs.YtlolkighnnedfaaGreatDoor
