/- package modn: Inv, by its contract. -/
import Derived.Test.YtadldaidbcdaeaaModC
import Derived.WalkMore
import Derived.ScopeJumps
import Derived.Deep.DeepCutAuto
import Derived.Outline
set_option linter.unusedVariables false
set_option linter.unusedSimpArgs false
namespace Go.Proofs.Ytadldaidbcdaeaa
open Go.RowKit Go.Sg

/-- The inverse, where there is one. -/
def InvPost (X m : Nat) (code : Int) (w : World) (e : Ending) (w' : World) : Prop :=
  (code ≠ 0 → e = .returned (.tuple #[.slice none 0 0, .int .i64 code])) ∧
  (code = 0 → Nat.gcd X m ≠ 1 → e = .returned (.tuple #[.slice none 0 0, .int .i64 61])) ∧
  (code = 0 → Nat.gcd X m = 1 → ∃ v x, e = .returned (.tuple #[v, .int .i64 0]) ∧ NatRes w.heap.size w' v x ∧ x < m ∧ x * X % m = 1) ∧ Below w.heap.size w w'

/-- Where the jump lands. -/
def FoundAt (vX vm : Value) (X m : Nat) (w : World) (b : Act) (w' : World) : Prop := ∃ vA vg vx G Y,
  b = { tmps := #[vA, vm, undef, undef, .slice none 0 0, .int .i64 0, vg, vx, .int .i64 0, vX, vm, .slice (some ⟨w.heap.size, 0, none⟩) 2 2, .int .i64 0, .int .i64 0, .bool false, undef, vX, vm, vA, vm, .bool true, .tuple #[vg, vx], vA, vm, .tuple #[vg, vx], vg, vx, undef, undef, undef, undef, undef, undef, undef, undef, undef, undef, undef, undef, undef], defers := [] } ∧
  NumAt w' vg G ∧ NumAt w' vx Y ∧ NumAt w' vm m ∧ G = Nat.gcd X m ∧ Cg m (Y * (X % m : Nat)) G ∧ Below w.heap.size w w'

set_option maxHeartbeats 4000000 in
theorem mInv_c (a a' : Option Addr) (cap cap' : Nat) (xs zs : List Int) (w : World) (sx : Sl .u32 w a cap xs) (sz : Sl .u32 w a' cap' zs) (ux : U32 xs) (uz : U32 zs) (hl : xs.length ≤ 17592186044415) (hl'' : zs.length ≤ 17592186044415) :
    Calls Try.prog 64 #[.slice a xs.length cap, .slice a' zs.length cap'] w (InvPost (val xs) (val zs) (wrongN [val xs, val zs]) w) := by
  have nr := nrows_new w 30 [⟨a, cap, xs⟩, ⟨a', cap', zs⟩] #[.slice a xs.length cap, .slice a' zs.length cap'] rfl (by simp; exact ⟨sx, sz⟩) (by simp; exact ⟨ux, uz⟩) (by simp; omega)
  have wc := wrong_c w.heap.size 2 _ _ nr (by simp) (by simp)
  simp only [List.length_cons, List.length_nil, Nat.zero_add, Nat.reduceAdd, List.map_cons, List.map_nil, NPart.num] at wc
  have hok := fun h => wrongN_ok (ns := [val xs, val zs]) h
  simp only [List.mem_cons, List.not_mem_nil, or_false, forall_eq_or_imp, forall_eq, List.getLastD_cons, List.getLastD_nil] at hok
  obtain ⟨code, hcode⟩ : ∃ c, c = wrongN [val xs, val zs] := ⟨_, rfl⟩
  rw [← hcode] at wc hok ⊢
  have hb0 := (Below.refl w.heap.size w).alloc (Nat.le_refl _) (.cells #[.slice a xs.length cap, .slice a' zs.length cap'] 30)
  clear nr hcode
  by_cases hc : code = 0
  · obtain ⟨⟨mx, mz⟩, h2⟩ := hok hc
    subst hc
    clear hok
    have nx := (NumAt.of sx ux hl).below hb0
    have nz := (NumAt.of sz uz hl'').below hb0
    obtain ⟨X, hX⟩ : ∃ X, X = val xs := ⟨_, rfl⟩
    obtain ⟨m, hm⟩ : ∃ m, m = val zs := ⟨_, rfl⟩
    rw [← hX] at nx mx ⊢
    rw [← hm] at nz mz h2 ⊢
    clear hX hm sx sz
    have HM := Lib.hid h2
    clear h2
    go_enter Try.func64, Try.ntmps64
    go_wp2_with fail
    refine wp_scope_jumps 0 (FoundAt (.slice a xs.length cap) (.slice a' zs.length cap') X m w) (fun _ _ => 0) rfl ?_ ?_
    rotate_left
    · rintro b0 wE ⟨vA, vg, vx, G, Y, rfl, nG, nY, nz, hGX, hYX, hB⟩
      have hg1 := Lib.hid hGX
      have HY := Lib.hid hYX
      clear hGX hYX nx hb0 wc
      have one : NumAt (wE.alloc (.cells #[.int .u32 1] 52)) (.slice (some ⟨wE.heap.size, 0, none⟩) 1 1) 1 := num_one wE
      have hb := below_one wE (.cells #[.int .u32 1] 52)
      replace nG := nG.below hb
      replace nY := nY.below hb
      replace nz := nz.below hb
      replace hB := hB.trans (hb.mono hB.size)
      have cc := cmp_v nG one
      clear hb one
      by_cases hone : G = 1
      · rw [cmpI_eq hone] at cc
        have fin : Hid (Nat.gcd X m = 1 ∧ Y % m * X % m = 1) := Lib.hid ⟨by rw [← hg1.out]; exact hone, by
          have h := inv_of (by have := HM.out; omega) HY.out hone
          rw [Nat.mod_mod] at h
          rw [Nat.mul_mod, Nat.mod_mod]
          exact h⟩
        clear hone
        go_wp2_with fail
        refine cc.mono ?_; rintro e w5 ⟨rfl, hdr⟩
        replace nY := nY.below hdr.b
        replace nz := nz.below hdr.b
        replace hB := hB.trans (hdr.b.mono hB.size)
        clear cc hdr nG
        go_wp2_with fail
        refine (rest_v nY nz (by have := HM.out; omega)).mono ?_; rintro e w6 ⟨v6, rfl, hn, hb⟩
        have r6 := hn.mono hB.size
        replace hB := hB.trans (hb.mono hB.size)
        clear hn hb
        go_wp2_with fail
        simp only [Exit.jump]
        go_ret2
        exact ⟨fun h => absurd rfl h, fun _ h => absurd fin.out.1 h, fun _ _ => ⟨_, _, rfl, r6, Nat.mod_lt _ (by have := HM.out; omega), fin.out.2⟩, hB⟩
      · have hne : (cmpI G 1 != 0) = true := by
          have : cmpI G 1 ≠ 0 := by unfold cmpI; split; omega; rw [if_pos (by omega)]; omega
          simpa using this
        obtain ⟨c, hc⟩ : ∃ c, c = cmpI G 1 := ⟨_, rfl⟩
        rw [← hc] at cc hne
        have fin : Hid (Nat.gcd X m ≠ 1) := Lib.hid (by rw [← hg1.out]; exact hone)
        clear hone hc
        go_wp2_with fail
        refine cc.mono ?_; rintro e w5 ⟨rfl, hdr⟩
        replace hB := hB.trans (hdr.b.mono hB.size)
        clear cc hdr nG
        go_wp2_with fail
        simp only [Exit.jump]
        go_ret2
        exact ⟨fun h => absurd rfl h, fun _ _ => rfl, fun _ h => absurd h fin.out, hB⟩
    go_wp2_with fail
    refine wc.mono ?_; rintro e w0 ⟨rfl, rfl⟩
    obtain ⟨w0, hw0⟩ : ∃ x, x = w.alloc (.cells #[.slice a xs.length cap, .slice a' zs.length cap'] 30) := ⟨_, rfl⟩
    rw [← hw0] at hb0 nx nz ⊢
    clear wc hw0
    have hB := hb0
    clear hb0
    go_wp2_with fail
    refine (rest_v nx nz (by have := HM.out; omega)).mono ?_; rintro e w1 ⟨vA, rfl, hn, hb⟩
    replace nz := nz.below hb
    replace hB := hB.trans (hb.mono hB.size)
    have hlt := Nat.mod_lt X (show m > 0 by have := HM.out; omega)
    have nA := hn.num (mz.of_lt hlt) (by omega)
    obtain ⟨A, hA0⟩ : ∃ A, A = X % m := ⟨_, rfl⟩
    rw [← hA0] at nA hlt
    have hA := Lib.hid hA0
    have HLT := Lib.hid hlt
    clear hn hb nx hA0 hlt
    have bc := bit0_v nz
    by_cases ho : m % 2 = 1
    · rw [show decide (m % 2 = 1) = true from decide_eq_true ho] at bc
      have HO := Lib.hid ho
      clear ho
      go_wp2_with fail
      refine bc.mono ?_; rintro e w2 ⟨rfl, hdr⟩
      replace nz := nz.below hdr.b
      replace nA := nA.below hdr.b
      replace hB := hB.trans (hdr.b.mono hB.size)
      clear bc hdr
      go_wp2_with fail
      refine (odd_c nA nz mz (by have := HM.out; omega) HO.out HLT.out).mono ?_; rintro e wE ⟨vg, vx, G, Y, rfl, nG, nY, hG, hY, hyl, hb⟩
      have HG := Lib.hid hG
      have HY := Lib.hid hY
      replace nz := nz.below hb
      replace hB := hB.trans (hb.mono hB.size)
      clear hb hG hY hyl
      have hGX : G = Nat.gcd X m := by rw [HG.out, hA.out, gcd_mod]
      have hYX : Cg m (Y * (X % m : Nat)) G := by rw [← hA.out]; exact HY.out
      clear HG HY hA HLT
      go_wp2_with fail
      go_step3
      exact ⟨rfl, vA, vg, vx, G, Y, rfl, nG, nY, nz, hGX, hYX, hB⟩
    · rw [show decide (m % 2 = 1) = false from decide_eq_false ho] at bc
      clear ho
      go_wp2_with fail
      refine bc.mono ?_; rintro e w2 ⟨rfl, hdr⟩
      replace nz := nz.below hdr.b
      replace nA := nA.below hdr.b
      replace hB := hB.trans (hdr.b.mono hB.size)
      clear bc hdr
      go_wp2_with fail
      refine (even_c nA nz mz (by have := HM.out; omega) HLT.out).mono ?_; rintro e wE ⟨vg, vx, G, Y, rfl, nG, nY, hG, hY, hyl, hb⟩
      have HG := Lib.hid hG
      have HY := Lib.hid hY
      replace nz := nz.below hb
      replace hB := hB.trans (hb.mono hB.size)
      clear hb hG hY hyl
      have hg1 : Hid (G = Nat.gcd X m) := Lib.hid (by rw [HG.out, hA.out, gcd_mod])
      have one : NumAt (wE.alloc (.cells #[.int .u32 1] 52)) (.slice (some ⟨wE.heap.size, 0, none⟩) 1 1) 1 := num_one wE
      have hb := below_one wE (.cells #[.int .u32 1] 52)
      replace nG := nG.below hb
      replace nY := nY.below hb
      replace nz := nz.below hb
      replace hB := hB.trans (hb.mono hB.size)
      have cc := cmp_v nG one
      clear hb one
      by_cases hone : G = 1
      · rw [cmpI_eq hone] at cc
        have fin : Hid (Nat.gcd X m = 1 ∧ Y % m * X % m = 1) := Lib.hid ⟨by rw [← hg1.out]; exact hone, by
          have h := inv_of (by have := HM.out; omega) HY.out hone
          rw [hA.out, Nat.mod_mod] at h
          rw [Nat.mul_mod, Nat.mod_mod]
          exact h⟩
        clear hone
        go_wp2_with fail
        go_step3
        go_wp2_with fail
        refine cc.mono ?_; rintro e w5 ⟨rfl, hdr⟩
        replace nY := nY.below hdr.b
        replace nz := nz.below hdr.b
        replace hB := hB.trans (hdr.b.mono hB.size)
        clear cc hdr nG
        go_wp2_with fail
        refine (rest_v nY nz (by have := HM.out; omega)).mono ?_; rintro e w6 ⟨v6, rfl, hn, hb⟩
        have r6 := hn.mono hB.size
        replace hB := hB.trans (hb.mono hB.size)
        clear hn hb
        go_wp2_with fail
        simp only [Exit.jump]
        go_ret2
        exact ⟨fun h => absurd rfl h, fun _ h => absurd fin.out.1 h, fun _ _ => ⟨_, _, rfl, r6, Nat.mod_lt _ (by have := HM.out; omega), fin.out.2⟩, hB⟩
      · have hne : (cmpI G 1 != 0) = true := by
          have : cmpI G 1 ≠ 0 := by unfold cmpI; split; omega; rw [if_pos (by omega)]; omega
          simpa using this
        obtain ⟨c, hc⟩ : ∃ c, c = cmpI G 1 := ⟨_, rfl⟩
        rw [← hc] at cc hne
        have fin : Hid (Nat.gcd X m ≠ 1) := Lib.hid (by rw [← hg1.out]; exact hone)
        clear hone hc
        go_wp2_with fail
        go_step3
        go_wp2_with fail
        refine cc.mono ?_; rintro e w5 ⟨rfl, hdr⟩
        replace hB := hB.trans (hdr.b.mono hB.size)
        clear cc hdr nG
        go_wp2_with fail
        simp only [Exit.jump]
        go_ret2
        exact ⟨fun h => absurd rfl h, fun _ _ => rfl, fun _ h => absurd h fin.out, hB⟩
  · have hne : (code != 0) = true := by simpa using hc
    have HC := Lib.hid hc
    clear hok hc
    go_enter Try.func64, Try.ntmps64
    go_wp2_with fail
    go_step3
    go_wp2_with fail
    refine wc.mono ?_; rintro e w0 ⟨rfl, rfl⟩
    clear wc
    go_wp2_with fail
    rw [Exit.noGoto_ret]
    go_ret2
    exact ⟨fun _ => rfl, fun h => absurd h HC.out, fun h => absurd h HC.out, hb0⟩
end Go.Proofs.Ytadldaidbcdaeaa
