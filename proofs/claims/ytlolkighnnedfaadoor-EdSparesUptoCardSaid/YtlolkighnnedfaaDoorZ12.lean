import Derived.Test.YtlolkighnnedfaaDoorZ11
import Derived.WalkMore
import Derived.ScopeJumps
import Derived.Deep.DeepCutAuto
import Derived.Outline
/- package modn: Inv, by its contract. -/
set_option linter.unusedVariables false
set_option linter.unusedSimpArgs false
namespace Go.Proofs.YtlolkighnnedfaaDoor
open Go.RowKit Go.Sg

/-- The inverse, where there is one. -/
def InvPost (X m : Nat) (code : Int) (w : World) (e : Ending) (w' : World) : Prop :=
  (code ≠ 0 → e = .returned (.tuple #[.slice none 0 0, .int .i64 code])) ∧
  (code = 0 → Nat.gcd X m ≠ 1 → e = .returned (.tuple #[.slice none 0 0, .int .i64 61])) ∧
  (code = 0 → Nat.gcd X m = 1 → ∃ v x, e = .returned (.tuple #[v, .int .i64 0]) ∧ NatRes w.heap.size w' v x ∧ x < m ∧ x * X % m = 1) ∧ Below w.heap.size w w'

/-- Where the jump lands. -/
def FoundAt (vX vm : Value) (X m : Nat) (w : World) (b : Act) (w' : World) : Prop := ∃ vA vg vx G Y,
  b = { tmps := #[vA, vm, undef, undef, .slice none 0 0, .int .i64 0, vg, vx, .int .i64 0, vX, vm, .slice (some ⟨w.heap.size, 0, none⟩) 2 2, .int .i64 0, .int .i64 0, .bool false, undef, vX, vm, vA, vm, .bool true, .tuple #[vg, vx], vA, vm, .tuple #[vg, vx], vg, vx, undef, undef, undef, undef, undef, undef, undef, undef, undef, undef, undef, undef, undef], defers := [] } ∧
  NumAt w' vg G ∧ NumAt w' vx Y ∧ NumAt w' vm m ∧ G = Nat.gcd X m ∧ Cg m (Y * (X % m : Nat)) G ∧ Below w.heap.size w w'

set_option maxHeartbeats 4000000 in
theorem mInv_c (a a' : Option Addr) (cap cap' : Nat) (xs zs : List Int) (w : World) (sx : Sl .u32 w a cap xs) (sz : Sl .u32 w a' cap' zs) (ux : U32 xs) (uz : U32 zs) (hl : xs.length ≤ 17592186044415) (hl'' : zs.length ≤ 17592186044415) :
    Calls Tryd.prog 122 #[.slice a xs.length cap, .slice a' zs.length cap'] w (InvPost (val xs) (val zs) (wrongN [val xs, val zs]) w) := by
  have nr := nrows_new w 27 [⟨a, cap, xs⟩, ⟨a', cap', zs⟩] #[.slice a xs.length cap, .slice a' zs.length cap'] rfl (by simp; exact ⟨sx, sz⟩) (by simp; exact ⟨ux, uz⟩) (by simp; omega)
  have wc := wrong_c w.heap.size 2 _ _ nr (by simp) (by simp)
  simp only [List.length_cons, List.length_nil, Nat.zero_add, Nat.reduceAdd, List.map_cons, List.map_nil, NPart.num] at wc
  have hok := fun h => wrongN_ok (ns := [val xs, val zs]) h
  simp only [List.mem_cons, List.not_mem_nil, or_false, forall_eq_or_imp, forall_eq, List.getLastD_cons, List.getLastD_nil] at hok
  obtain ⟨code, hcode⟩ : ∃ c, c = wrongN [val xs, val zs] := ⟨_, rfl⟩
  rw [← hcode] at wc hok ⊢
  have hb0 := (Below.refl w.heap.size w).alloc (Nat.le_refl _) (.cells #[.slice a xs.length cap, .slice a' zs.length cap'] 27)
  clear nr hcode
  by_cases hc : code = 0
  · obtain ⟨⟨mx, mz⟩, h2⟩ := hok hc
    subst hc
    clear hok
    have nx := (NumAt.of sx ux hl).below hb0
    have nz := (NumAt.of sz uz hl'').below hb0
    obtain ⟨X, hX⟩ : ∃ X, X = val xs := ⟨_, rfl⟩
    obtain ⟨m, hm⟩ : ∃ m, m = val zs := ⟨_, rfl⟩
    rw [← hX] at nx mx ⊢
    rw [← hm] at nz mz h2 ⊢
    clear hX hm sx sz
    have HM := Lib.hid h2
    clear h2
    go_enter Tryd.func122, Tryd.ntmps122
    go_wp2_with fail
    refine wp_scope_jumps 0 (FoundAt (.slice a xs.length cap) (.slice a' zs.length cap') X m w) (fun _ _ => 0) rfl ?_ ?_
    rotate_left
    · rintro b0 wE ⟨vA, vg, vx, G, Y, rfl, nG, nY, nz, hGX, hYX, hB⟩
      have hg1 := Lib.hid hGX
      have HY := Lib.hid hYX
      clear hGX hYX nx hb0 wc
      have one : NumAt (wE.alloc (.cells #[.int .u32 1] 36)) (.slice (some ⟨wE.heap.size, 0, none⟩) 1 1) 1 := num_one wE
      have hb := below_one wE (.cells #[.int .u32 1] 36)
      replace nG := nG.below hb
      replace nY := nY.below hb
      replace nz := nz.below hb
      replace hB := hB.trans (hb.mono hB.size)
      have cc := cmp_v nG one
      clear hb one
      by_cases hone : G = 1
      · rw [cmpI_eq hone] at cc
        have fin : Hid (Nat.gcd X m = 1 ∧ Y % m * X % m = 1) := Lib.hid ⟨by rw [← hg1.out]; exact hone, by
          have h := inv_of (by have := HM.out; omega) HY.out hone
          rw [Nat.mod_mod] at h
          rw [Nat.mul_mod, Nat.mod_mod]
          exact h⟩
        clear hone
        go_wp2_with fail
        refine cc.mono ?_; rintro e w5 ⟨rfl, hdr⟩
        replace nY := nY.below hdr.b
        replace nz := nz.below hdr.b
        replace hB := hB.trans (hdr.b.mono hB.size)
        clear cc hdr nG
        go_wp2_with fail
        refine (rest_v nY nz (by have := HM.out; omega)).mono ?_; rintro e w6 ⟨v6, rfl, hn, hb⟩
        have r6 := hn.mono hB.size
        replace hB := hB.trans (hb.mono hB.size)
        clear hn hb
        go_wp2_with fail
        simp only [Exit.jump]
        go_ret2
        exact ⟨fun h => absurd rfl h, fun _ h => absurd fin.out.1 h, fun _ _ => ⟨_, _, rfl, r6, Nat.mod_lt _ (by have := HM.out; omega), fin.out.2⟩, hB⟩
      · have hne : (cmpI G 1 != 0) = true := by
          have : cmpI G 1 ≠ 0 := by unfold cmpI; split; omega; rw [if_pos (by omega)]; omega
          simpa using this
        obtain ⟨c, hc⟩ : ∃ c, c = cmpI G 1 := ⟨_, rfl⟩
        rw [← hc] at cc hne
        have fin : Hid (Nat.gcd X m ≠ 1) := Lib.hid (by rw [← hg1.out]; exact hone)
        clear hone hc
        go_wp2_with fail
        refine cc.mono ?_; rintro e w5 ⟨rfl, hdr⟩
        replace hB := hB.trans (hdr.b.mono hB.size)
        clear cc hdr nG
        go_wp2_with fail
        simp only [Exit.jump]
        go_ret2
        exact ⟨fun h => absurd rfl h, fun _ _ => rfl, fun _ h => absurd h fin.out, hB⟩
    go_wp2_with fail
    refine wc.mono ?_; rintro e w0 ⟨rfl, rfl⟩
    obtain ⟨w0, hw0⟩ : ∃ x, x = w.alloc (.cells #[.slice a xs.length cap, .slice a' zs.length cap'] 27) := ⟨_, rfl⟩
    rw [← hw0] at hb0 nx nz ⊢
    clear wc hw0
    have hB := hb0
    clear hb0
    go_wp2_with fail
    refine (rest_v nx nz (by have := HM.out; omega)).mono ?_; rintro e w1 ⟨vA, rfl, hn, hb⟩
    replace nz := nz.below hb
    replace hB := hB.trans (hb.mono hB.size)
    have hlt := Nat.mod_lt X (show m > 0 by have := HM.out; omega)
    have nA := hn.num (mz.of_lt hlt) (by omega)
    obtain ⟨A, hA0⟩ : ∃ A, A = X % m := ⟨_, rfl⟩
    rw [← hA0] at nA hlt
    have hA := Lib.hid hA0
    have HLT := Lib.hid hlt
    clear hn hb nx hA0 hlt
    have bc := bit0_v nz
    by_cases ho : m % 2 = 1
    · rw [show decide (m % 2 = 1) = true from decide_eq_true ho] at bc
      have HO := Lib.hid ho
      clear ho
      go_wp2_with fail
      refine bc.mono ?_; rintro e w2 ⟨rfl, hdr⟩
      replace nz := nz.below hdr.b
      replace nA := nA.below hdr.b
      replace hB := hB.trans (hdr.b.mono hB.size)
      clear bc hdr
      go_wp2_with fail
      refine (odd_c nA nz mz (by have := HM.out; omega) HO.out HLT.out).mono ?_; rintro e wE ⟨vg, vx, G, Y, rfl, nG, nY, hG, hY, hyl, hb⟩
      have HG := Lib.hid hG
      have HY := Lib.hid hY
      replace nz := nz.below hb
      replace hB := hB.trans (hb.mono hB.size)
      clear hb hG hY hyl
      have hGX : G = Nat.gcd X m := by rw [HG.out, hA.out, gcd_mod]
      have hYX : Cg m (Y * (X % m : Nat)) G := by rw [← hA.out]; exact HY.out
      clear HG HY hA HLT
      go_wp2_with fail
      go_step3
      exact ⟨rfl, vA, vg, vx, G, Y, rfl, nG, nY, nz, hGX, hYX, hB⟩
    · rw [show decide (m % 2 = 1) = false from decide_eq_false ho] at bc
      clear ho
      go_wp2_with fail
      refine bc.mono ?_; rintro e w2 ⟨rfl, hdr⟩
      replace nz := nz.below hdr.b
      replace nA := nA.below hdr.b
      replace hB := hB.trans (hdr.b.mono hB.size)
      clear bc hdr
      go_wp2_with fail
      refine (even_c nA nz mz (by have := HM.out; omega) HLT.out).mono ?_; rintro e wE ⟨vg, vx, G, Y, rfl, nG, nY, hG, hY, hyl, hb⟩
      have HG := Lib.hid hG
      have HY := Lib.hid hY
      replace nz := nz.below hb
      replace hB := hB.trans (hb.mono hB.size)
      clear hb hG hY hyl
      have hg1 : Hid (G = Nat.gcd X m) := Lib.hid (by rw [HG.out, hA.out, gcd_mod])
      have one : NumAt (wE.alloc (.cells #[.int .u32 1] 36)) (.slice (some ⟨wE.heap.size, 0, none⟩) 1 1) 1 := num_one wE
      have hb := below_one wE (.cells #[.int .u32 1] 36)
      replace nG := nG.below hb
      replace nY := nY.below hb
      replace nz := nz.below hb
      replace hB := hB.trans (hb.mono hB.size)
      have cc := cmp_v nG one
      clear hb one
      by_cases hone : G = 1
      · rw [cmpI_eq hone] at cc
        have fin : Hid (Nat.gcd X m = 1 ∧ Y % m * X % m = 1) := Lib.hid ⟨by rw [← hg1.out]; exact hone, by
          have h := inv_of (by have := HM.out; omega) HY.out hone
          rw [hA.out, Nat.mod_mod] at h
          rw [Nat.mul_mod, Nat.mod_mod]
          exact h⟩
        clear hone
        go_wp2_with fail
        go_step3
        go_wp2_with fail
        refine cc.mono ?_; rintro e w5 ⟨rfl, hdr⟩
        replace nY := nY.below hdr.b
        replace nz := nz.below hdr.b
        replace hB := hB.trans (hdr.b.mono hB.size)
        clear cc hdr nG
        go_wp2_with fail
        refine (rest_v nY nz (by have := HM.out; omega)).mono ?_; rintro e w6 ⟨v6, rfl, hn, hb⟩
        have r6 := hn.mono hB.size
        replace hB := hB.trans (hb.mono hB.size)
        clear hn hb
        go_wp2_with fail
        simp only [Exit.jump]
        go_ret2
        exact ⟨fun h => absurd rfl h, fun _ h => absurd fin.out.1 h, fun _ _ => ⟨_, _, rfl, r6, Nat.mod_lt _ (by have := HM.out; omega), fin.out.2⟩, hB⟩
      · have hne : (cmpI G 1 != 0) = true := by
          have : cmpI G 1 ≠ 0 := by unfold cmpI; split; omega; rw [if_pos (by omega)]; omega
          simpa using this
        obtain ⟨c, hc⟩ : ∃ c, c = cmpI G 1 := ⟨_, rfl⟩
        rw [← hc] at cc hne
        have fin : Hid (Nat.gcd X m ≠ 1) := Lib.hid (by rw [← hg1.out]; exact hone)
        clear hone hc
        go_wp2_with fail
        go_step3
        go_wp2_with fail
        refine cc.mono ?_; rintro e w5 ⟨rfl, hdr⟩
        replace hB := hB.trans (hdr.b.mono hB.size)
        clear cc hdr nG
        go_wp2_with fail
        simp only [Exit.jump]
        go_ret2
        exact ⟨fun h => absurd rfl h, fun _ _ => rfl, fun _ h => absurd h fin.out, hB⟩
  · have hne : (code != 0) = true := by simpa using hc
    have HC := Lib.hid hc
    clear hok hc
    go_enter Tryd.func122, Tryd.ntmps122
    go_wp2_with fail
    go_step3
    go_wp2_with fail
    refine wc.mono ?_; rintro e w0 ⟨rfl, rfl⟩
    clear wc
    go_wp2_with fail
    rw [Exit.noGoto_ret]
    go_ret2
    exact ⟨fun _ => rfl, fun h => absurd h HC.out, fun h => absurd h HC.out, hb0⟩
end Go.Proofs.YtlolkighnnedfaaDoor
/- The calls of modn in handier words. (Printed by gen_lawsevena.py.) -/
set_option linter.unusedVariables false
set_option linter.unusedSimpArgs false
namespace Go.Sg
/-- How many limbs a number has. -/
def nl (n : Nat) : Nat := (bl n + 31) / 32
theorem nl_zero : nl 0 = 0 := rfl
theorem topz_nl {xs : List Int} (u : U32 xs) : topz xs = nl (val xs) := by
  rw [← length_norm, ← val_norm]
  obtain ⟨z, hz⟩ : ∃ z, z = norm xs := ⟨_, rfl⟩
  have cz := Canon.norm xs
  have uz := u.norm
  rw [← hz] at cz uz ⊢
  rcases Nat.eq_zero_or_pos z.length with h | h
  · have : z = [] := List.eq_nil_of_length_eq_zero h
    subst this; rfl
  · have h1 := bl_val uz cz h
    have h2 := cz.last h
    have h3 : lb z (z.length - 1) ≠ 0 := by
      intro h4
      have := lb_cast uz (z.length - 1)
      rw [h4] at this
      exact h2 this.symm
    have h4 := bl_pos h3
    have h5 := (bl_le_iff (lb z (z.length - 1)) 32).2 (by have := lb_lt uz (z.length - 1); unfold R at this; omega)
    unfold nl
    omega
theorem nl_big (n : Nat) : decide (128 < nl n) = bigB n := by
  unfold bigB nl
  rw [decide_eq_decide]
  omega
theorem bigB_le {n m : Nat} (h : n ≤ m) (hm : bigB m = false) : bigB n = false := by
  have h1 := of_decide_eq_false hm
  refine decide_eq_false ?_
  have := (bl_le_iff n (bl m)).2 (Nat.lt_of_le_of_lt h (lt_bl m))
  omega
theorem bigB_zero : bigB 0 = false := rfl
theorem wrongN3 (a b m : Nat) : wrongN [a, b, m] = if bigB a = true ∨ bigB b = true ∨ bigB m = true then 10 else if m < 2 then 60 else 0 := by
  unfold wrongN
  simp only [List.any_cons, List.any_nil, Bool.or_false, List.getLastD_cons, List.getLastD_nil, Bool.or_eq_true]
theorem wrongN2 (a m : Nat) : wrongN [a, m] = wrongN [a, 0, m] := by
  rw [wrongN3]
  unfold wrongN
  simp only [List.any_cons, List.any_nil, Bool.or_false, List.getLastD_cons, List.getLastD_nil, Bool.or_eq_true, bigB_zero, Bool.false_eq_true, false_or]
/-- Nothing is refused. -/
structure Ok3 (a b m : Nat) : Prop where
  pa : bigB a = false
  pb : bigB b = false
  pm : bigB m = false
  two : 2 ≤ m
theorem Ok3.code {a b m : Nat} (h : Ok3 a b m) : wrongN [a, b, m] = 0 := by
  have := h.two
  rw [wrongN3, h.pa, h.pb, h.pm, if_neg (by simp), if_neg (by omega)]
theorem Ok3.of {a b m : Nat} (h : wrongN [a, b, m] = 0) : Ok3 a b m := by
  rw [wrongN3] at h
  split at h
  · cases h
  · rename_i h1
    split at h
    · cases h
    · refine ⟨?_, ?_, ?_, by omega⟩
      · cases hb : bigB a
        · rfl
        · exact absurd (.inl hb) h1
      · cases hb : bigB b
        · rfl
        · exact absurd (.inr (.inl hb)) h1
      · cases hb : bigB m
        · rfl
        · exact absurd (.inr (.inr hb)) h1
theorem Ok3.lim {a b m : Nat} (h : Ok3 a b m) : Lim 128 m := bigB_lim h.pm
theorem Ok3.rest {a b m : Nat} (h : Ok3 a b m) (n : Nat) : bigB (n % m) = false := bigB_le (Nat.le_of_lt (Nat.mod_lt n (by have := h.two; omega))) h.pm
end Go.Sg
namespace Go.Proofs.YtlolkighnnedfaaDoor
open Go.RowKit Go.Sg

/-- A slice that reads as a number without noughts on top. -/
def CanAt (w : World) (v : Value) (n : Nat) : Prop := ∃ a c zs, v = .slice a zs.length c ∧ Sl .u32 w a c zs ∧ Canon zs ∧ U32 zs ∧ val zs = n ∧ zs.length ≤ 17592186044415
theorem CanAt.below {w w' : World} {v : Value} {n : Nat} (h : CanAt w v n) (hb : Below w.heap.size w w') : CanAt w' v n := by
  obtain ⟨a, c, zs, e, s, cz, u, hv, hl⟩ := h
  exact ⟨a, c, zs, e, s.below hb, cz, u, hv, hl⟩
theorem CanAt.len {w : World} {v : Value} {n : Nat} (h : CanAt w v n) : ∃ a c, v = .slice a (nl n) c := by
  obtain ⟨a, c, zs, e, s, cz, u, hv, hl⟩ := h
  refine ⟨a, c, ?_⟩
  rw [e, ← hv, ← topz_nl u, cz]
theorem num_nil (w : World) : NumAt w (.slice none 0 0) 0 := ⟨none, 0, [], rfl, .nil _ _ _ _ (by omega), .nil (by omega), rfl, by simp⟩
theorem CanAt.num {w : World} {v : Value} {n : Nat} (h : CanAt w v n) : NumAt w v n := by
  obtain ⟨a, c, zs, e, s, cz, u, hv, hl⟩ := h
  exact ⟨a, c, zs, e, s, u, hv, hl⟩
theorem NatRes.can {B : Nat} {w : World} {v : Value} {n k : Nat} (h : NatRes B w v n) (m : Lim k n) (hk : k ≤ 17592186044415) : CanAt w v n := by
  obtain ⟨a, c, zs, e, s, cz, u, hv⟩ := h.sl
  exact ⟨a, c, zs, e, s, cz, u, hv, Nat.le_trans ((Lim.eq m hv).len cz u) hk⟩
def OkPost (n : Nat) (W : World) (e : Ending) (w' : World) : Prop := ∃ v, e = .returned (.tuple #[v, .int .i64 0]) ∧ CanAt w' v n ∧ Below W.heap.size W w'
def NoPost (code : Int) (W : World) (e : Ending) (w' : World) : Prop := e = .returned (.tuple #[.slice none 0 0, .int .i64 code]) ∧ Below W.heap.size W w'
def CanPost (n : Nat) (W : World) (e : Ending) (w' : World) : Prop := ∃ v, e = .returned v ∧ CanAt w' v n ∧ Below W.heap.size W w'
theorem NatPost.can {n k : Nat} {W : World} {e : Ending} {w' : World} (h : NatPost n W e w') (m : Lim k n) (hk : k ≤ 17592186044415) : CanPost n W e w' := by
  obtain ⟨v, rfl, hn, hb⟩ := h
  exact ⟨v, rfl, hn.can m hk, hb⟩

section
variable {v v' v'' : Value} {n n' m : Nat} {W : World}
theorem ModPost.ok {code : Int} {r k : Nat} {e : Ending} {w' : World} (h : ModPost code r W e w') (hc : code = 0) (l : Lim k r) (hk : k ≤ 17592186044415) : OkPost r W e w' := by
  obtain ⟨v, rfl, hr⟩ := h.2.1 hc
  exact ⟨v, rfl, hr.can l hk, h.2.2⟩
theorem ModPost.no {code : Int} {r : Nat} {e : Ending} {w' : World} (h : ModPost code r W e w') (hc : code ≠ 0) : NoPost code W e w' := ⟨h.1 hc, h.2.2⟩
theorem mAdd_v (h : NumAt W v n) (h' : NumAt W v' n') (h'' : NumAt W v'' m) : Calls Tryd.prog 46 #[v, v', v''] W (ModPost (wrongN [n, n', m]) ((n + n') % m) W) := by
  obtain ⟨a, c, zs, rfl, s, u, rfl, hl⟩ := h
  obtain ⟨a', c', zs', rfl, s', u', rfl, hl'⟩ := h'
  obtain ⟨a'', c'', zs'', rfl, s'', u'', rfl, hl''⟩ := h''
  exact mAdd_c _ _ _ _ _ _ _ _ _ _ s s' s'' u u' u'' hl hl' hl''
theorem mAdd_ok (h : NumAt W v n) (h' : NumAt W v' n') (h'' : NumAt W v'' m) (ok : Ok3 n n' m) : Calls Tryd.prog 46 #[v, v', v''] W (OkPost ((n + n') % m) W) :=
  (mAdd_v h h' h'').mono fun e w' hp => hp.ok ok.code (ok.lim.of_lt (Nat.mod_lt _ (by have := ok.two; omega))) (by omega)
theorem mAdd_no (h : NumAt W v n) (h' : NumAt W v' n') (h'' : NumAt W v'' m) {code : Int} (ec : wrongN [n, n', m] = code) (no : code ≠ 0) : Calls Tryd.prog 46 #[v, v', v''] W (NoPost code W) :=
  (mAdd_v h h' h'').mono fun e w' hp => by subst ec; exact hp.no no
theorem mMul_v (h : NumAt W v n) (h' : NumAt W v' n') (h'' : NumAt W v'' m) : Calls Tryd.prog 45 #[v, v', v''] W (ModPost (wrongN [n, n', m]) (n * n' % m) W) := by
  obtain ⟨a, c, zs, rfl, s, u, rfl, hl⟩ := h
  obtain ⟨a', c', zs', rfl, s', u', rfl, hl'⟩ := h'
  obtain ⟨a'', c'', zs'', rfl, s'', u'', rfl, hl''⟩ := h''
  exact mMul_c _ _ _ _ _ _ _ _ _ _ s s' s'' u u' u'' hl hl' hl''
theorem mMul_ok (h : NumAt W v n) (h' : NumAt W v' n') (h'' : NumAt W v'' m) (ok : Ok3 n n' m) : Calls Tryd.prog 45 #[v, v', v''] W (OkPost (n * n' % m) W) :=
  (mMul_v h h' h'').mono fun e w' hp => hp.ok ok.code (ok.lim.of_lt (Nat.mod_lt _ (by have := ok.two; omega))) (by omega)
theorem mMul_no (h : NumAt W v n) (h' : NumAt W v' n') (h'' : NumAt W v'' m) {code : Int} (ec : wrongN [n, n', m] = code) (no : code ≠ 0) : Calls Tryd.prog 45 #[v, v', v''] W (NoPost code W) :=
  (mMul_v h h' h'').mono fun e w' hp => by subst ec; exact hp.no no
theorem mExp_v (h : NumAt W v n) (h' : NumAt W v' n') (h'' : NumAt W v'' m) : Calls Tryd.prog 123 #[v, v', v''] W (ModPost (wrongN [n, n', m]) (n ^ n' % m) W) := by
  obtain ⟨a, c, zs, rfl, s, u, rfl, hl⟩ := h
  obtain ⟨a', c', zs', rfl, s', u', rfl, hl'⟩ := h'
  obtain ⟨a'', c'', zs'', rfl, s'', u'', rfl, hl''⟩ := h''
  exact mExp_c _ _ _ _ _ _ _ _ _ _ s s' s'' u u' u'' hl hl' hl''
theorem mExp_ok (h : NumAt W v n) (h' : NumAt W v' n') (h'' : NumAt W v'' m) (ok : Ok3 n n' m) : Calls Tryd.prog 123 #[v, v', v''] W (OkPost (n ^ n' % m) W) :=
  (mExp_v h h' h'').mono fun e w' hp => hp.ok ok.code (ok.lim.of_lt (Nat.mod_lt _ (by have := ok.two; omega))) (by omega)
theorem mExp_no (h : NumAt W v n) (h' : NumAt W v' n') (h'' : NumAt W v'' m) {code : Int} (ec : wrongN [n, n', m] = code) (no : code ≠ 0) : Calls Tryd.prog 123 #[v, v', v''] W (NoPost code W) :=
  (mExp_v h h' h'').mono fun e w' hp => by subst ec; exact hp.no no
theorem mSub_v (h : NumAt W v n) (h' : NumAt W v' n') (h'' : NumAt W v'' m) : Calls Tryd.prog 69 #[v, v', v''] W (ModPost (wrongN [n, n', m]) (subM (n % m) (n' % m) m) W) := by
  obtain ⟨a, c, zs, rfl, s, u, rfl, hl⟩ := h
  obtain ⟨a', c', zs', rfl, s', u', rfl, hl'⟩ := h'
  obtain ⟨a'', c'', zs'', rfl, s'', u'', rfl, hl''⟩ := h''
  exact mSub_c _ _ _ _ _ _ _ _ _ _ s s' s'' u u' u'' hl hl' hl''
theorem mSub_ok (h : NumAt W v n) (h' : NumAt W v' n') (h'' : NumAt W v'' m) (ok : Ok3 n n' m) : Calls Tryd.prog 69 #[v, v', v''] W (OkPost (subM (n % m) (n' % m) m) W) :=
  (mSub_v h h' h'').mono fun e w' hp => hp.ok ok.code (ok.lim.of_lt (subM_lt (Nat.mod_lt _ (by have := ok.two; omega)) (Nat.mod_lt _ (by have := ok.two; omega)))) (by omega)
theorem mSub_no (h : NumAt W v n) (h' : NumAt W v' n') (h'' : NumAt W v'' m) {code : Int} (ec : wrongN [n, n', m] = code) (no : code ≠ 0) : Calls Tryd.prog 69 #[v, v', v''] W (NoPost code W) :=
  (mSub_v h h' h'').mono fun e w' hp => by subst ec; exact hp.no no
theorem mInv_v (h : NumAt W v n) (h'' : NumAt W v'' m) : Calls Tryd.prog 122 #[v, v''] W (InvPost n m (wrongN [n, 0, m]) W) := by
  obtain ⟨a, c, zs, rfl, s, u, rfl, hl⟩ := h
  obtain ⟨a'', c'', zs'', rfl, s'', u'', rfl, hl''⟩ := h''
  rw [← wrongN2]
  exact mInv_c _ _ _ _ _ _ _ s s'' u u'' hl hl''
theorem mInv_no (h : NumAt W v n) (h'' : NumAt W v'' m) {code : Int} (ec : wrongN [n, 0, m] = code) (no : code ≠ 0) : Calls Tryd.prog 122 #[v, v''] W (NoPost code W) :=
  (mInv_v h h'').mono fun e w' hp => by subst ec; exact ⟨hp.1 no, hp.2.2.2⟩
theorem mInv_none (h : NumAt W v n) (h'' : NumAt W v'' m) (ok : Ok3 n 0 m) (hg : Nat.gcd n m ≠ 1) : Calls Tryd.prog 122 #[v, v''] W (NoPost 61 W) :=
  (mInv_v h h'').mono fun e w' hp => ⟨hp.2.1 ok.code hg, hp.2.2.2⟩
def InvOk (n m : Nat) (W : World) (e : Ending) (w' : World) : Prop := ∃ v x, e = .returned (.tuple #[v, .int .i64 0]) ∧ CanAt w' v x ∧ x < m ∧ x * n % m = 1 ∧ Below W.heap.size W w'
theorem mInv_ok (h : NumAt W v n) (h'' : NumAt W v'' m) (ok : Ok3 n 0 m) (hg : Nat.gcd n m = 1) : Calls Tryd.prog 122 #[v, v''] W (InvOk n m W) :=
  (mInv_v h h'').mono fun e w' hp => by
    obtain ⟨v, x, rfl, hr, hx, h1⟩ := hp.2.2.1 ok.code hg
    exact ⟨v, x, rfl, hr.can (ok.lim.of_lt hx) (by omega), hx, h1, hp.2.2.2⟩
theorem add_can (h : NumAt W v n) (h' : NumAt W v' m) {k l : Nat} (a : Lim k n) (b : Lim l m) (hk : k + l ≤ 17592186044414) : Calls Tryd.prog 43 #[v, v'] W (CanPost (n + m) W) :=
  (add_v h h').mono fun e w' hp => hp.can (a.add b) (by omega)
theorem mul_can (h : NumAt W v n) (h' : NumAt W v' m) {k l : Nat} (a : Lim k n) (b : Lim l m) (hk : k + l ≤ 17592186044414) : Calls Tryd.prog 95 #[v, v'] W (CanPost (n * m) W) :=
  (mul_v h h').mono fun e w' hp => hp.can (a.mul b) (by omega)
def DivOk (n m : Nat) (W : World) (e : Ending) (w' : World) : Prop := ∃ vq vr, e = .returned (.tuple #[vq, vr, .int .i64 0]) ∧ CanAt w' vq (n / m) ∧ CanAt w' vr (n % m) ∧ Below W.heap.size W w'
theorem div_can (h : NumAt W v n) (h' : NumAt W v' m) {k : Nat} (a : Lim k n) (hk : k ≤ 17592186044415) (h0 : 0 < m) : Calls Tryd.prog 63 #[v, v'] W (DivOk n m W) :=
  (div_v h h').mono fun e w' hp => by
    obtain ⟨vq, vr, rfl, hq, hr, _⟩ := hp.2.1 h0
    exact ⟨vq, vr, rfl, hq.can (a.le (Nat.div_le_self _ _)) hk, hr.can (a.le (Nat.mod_le _ _)) hk, hp.2.2⟩
end
theorem NumAt.lim {w : World} {v : Value} {n : Nat} (h : NumAt w v n) : Lim 17592186044415 n := by
  obtain ⟨a, c, zs, rfl, s, u, rfl, hl⟩ := h
  exact .of_list u hl
theorem div_ok {v v' : Value} {n m : Nat} {W : World} (h : NumAt W v n) (h' : NumAt W v' m) (h0 : 0 < m) : Calls Tryd.prog 63 #[v, v'] W (DivOk n m W) := div_can h h' h.lim (by omega) h0
theorem can_lit (W : World) (g x : Nat) (X : Int) (hX : X = (x : Int)) (hg : g = W.heap.size) (h0 : x ≠ 0) (hx : x < 4294967296) : CanAt (W.alloc (.cells #[.int .u32 X] 36)) (.slice (some ⟨g, 0, none⟩) 1 1) x := by
  subst hg hX
  have hk : Blk (W.alloc (.cells #[.int .u32 (x : Int)] 36)) W.heap.size .u32 36 [(x : Int)] := cells_new .u32 W 36 [(x : Int)] #[.int .u32 (x : Int)] rfl _ rfl
  exact ⟨_, _, [(x : Int)], rfl, hk.sl_full (by simp), .of_last fun _ => by simp [nth]; omega, .of_mem (by omega) (by simp; omega), by simp [val_one], by simp⟩

end Go.Proofs.YtlolkighnnedfaaDoor
