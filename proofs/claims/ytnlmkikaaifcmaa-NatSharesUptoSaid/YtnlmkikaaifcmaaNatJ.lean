/- nat.DivMod, by its contract. -/
import Derived.Test.YtnlmkikaaifcmaaNatI
set_option linter.unusedVariables false
set_option linter.unusedSimpArgs false
namespace Go.Sg
open Go.RowKit

theorem append_types {P : Program} (w : World) (t t2 ty e e2 : TypeId) (ht : P.underlying t = some (.slice e)) (h2 : P.underlying t2 = some (.slice e2)) (b : Option Addr) (l c : Nat) (x : Value) :
    (Builtin.append_ #[t, t2] ty #[.slice b l c, x]).run P w = (Builtin.append_ #[t, t] ty #[.slice b l c, x]).run P w := by
  simp [Builtin.append_, run_underlying ht, run_underlying h2]

/-- 'append' where what is appended is of another slice type. -/
theorem wpList_append_two {P : Program} (w : World) {ops : Array Oper} {rest : List Oper} {o : Oper} {a : Act} {Q : Exit → Act → World → Prop} (hgd : o.guard = none) (s x : Operand) (t t2 : TypeId)
    (ho : o.op = .call { callee := .builtin .append, args := #[s, x], argTypes := #[t, t2] }) (B : Nat) (e e2 : TypeId) (k : IntKind) (bytes : Nat) (ht : P.underlying t = some (.slice e)) (ht2 : P.underlying t2 = some (.slice e2))
    (hi : (P.info? e).map (fun i => (i.zero, i.size, i.bytes)) = some (some (.int k 0), 1, bytes)) (v : Value) (xs : List Int) (hs : a.eval s = v) (hv : New B k e w v xs)
    (ad : Option Addr) (c n : Nat) (ys : List Int) (hx : a.eval x = .slice ad n c) (hn : n = ys.length) (hy : Cells k w ad ys) (hm : xs.length + ys.length ≤ 9223372036854775807) (hbytes : (xs.length + ys.length) * bytes ≤ 140737488355328) (hB : B ≤ w.heap.size)
    (h : ∀ v' w', New B k e w' v' (xs ++ ys) → w.grownBy w' v.ownBlock → (v'.ownBlock = v.ownBlock ∨ ∃ g, v'.ownBlock = some g ∧ w.heap.size ≤ g) → wpList P ops Q rest (a.put o.dst v') w') : wpList P ops Q (o :: rest) a w := by
  subst hn
  refine wpList_plain hgd fun K hK => ?_
  obtain ⟨v', w', hr, h2, h3, h4⟩ := run_append_new (P := P) w B t o.type e k bytes ht hi v xs hv ad c ys hy hm hbytes hB
  have hr2 : (Builtin.append_ #[t, t2] o.type #[v, .slice ad ys.length c]).run P w = .ok v' w' := by
    obtain ⟨av, cv, rfl, _⟩ := hv.sl
    rw [append_types w t t2 _ e e2 ht ht2]
    exact hr
  unfold Oper.wp execOp
  simp only [ho, resolve, invoke, builtin, Sem.run_bind, Sem.run_pure, Result.andThen_ok, List.map_toArray, List.map_cons, List.map_nil, hs, hx, hr2]
  exact hK _ _ (h v' w' h2 h3 h4)
end Go.Sg

namespace Go.Proofs.Ytnlmkikaaifcmaa
open Go.RowKit Go.Sg

/-- Quotient and rest, each new memory, and apart; or the complaint. -/
def DivPost (m n : Nat) (w : World) (e : Ending) (w' : World) : Prop :=
  (n = 0 → e = .returned (.tuple #[.slice none 0 0, .slice none 0 0, .int .i64 60])) ∧
  (0 < n → ∃ vq vr, e = .returned (.tuple #[vq, vr, .int .i64 0]) ∧ NatRes w.heap.size w' vq (m / n) ∧ NatRes w.heap.size w' vr (m % n) ∧ (∀ g, vq.ownBlock = some g → vr.ownBlock ≠ some g)) ∧ Below w.heap.size w w'

set_option maxHeartbeats 2000000 in
theorem DivMod_c (a a' : Option Addr) (cap cap' : Nat) (xs ys : List Int) (w : World) (hc : Sl .u32 w a cap xs) (hc' : Sl .u32 w a' cap' ys) (ux : U32 xs) (uy : U32 ys) (hl : xs.length ≤ 35184372088832) (hl' : ys.length ≤ 35184372088832) :
    Calls Try.prog 15 #[.slice a xs.length cap, .slice a' ys.length cap'] w (DivPost (val xs) (val ys) w) := by
  have CM := fun w hc hc' => Cmp_c a a' cap cap' xs ys w hc hc' ux uy
  go_enter Try.func15, Try.ntmps15
  go_wp2_with fail
  refine (value_c a cap xs _ hc).mono ?_; rintro e w' ⟨rfl, rfl⟩
  go_wp2_with fail
  refine (value_c a' cap' ys _ hc').mono ?_; rintro e w' ⟨rfl, rfl⟩
  have hx := Sl.norm hc
  have hy := Sl.norm hc'
  have ex : Hid (val (norm xs) = val xs) := Lib.hid (val_norm xs)
  have ey : Hid (val (norm ys) = val ys) := Lib.hid (val_norm ys)
  have vx := ux.norm
  have vy := uy.norm
  have cy := Canon.norm ys
  have cx := Canon.norm xs
  have hlx : (norm xs).length ≤ 35184372088832 := by rw [length_norm]; have := topz_le xs; omega
  have hly : (norm ys).length ≤ 35184372088832 := by rw [length_norm]; have := topz_le ys; omega
  generalize norm xs = x at *
  generalize norm ys = y at *
  obtain ⟨ny, hny⟩ : ∃ ny, ny = y.length := ⟨_, rfl⟩
  have HNY := Lib.hid hny
  rw [← hny] at hly ⊢
  clear hny
  by_cases hy0 : ny = 0
  · subst hy0
    obtain rfl : y = [] := List.eq_nil_of_length_eq_zero HNY.out.symm
    have hz : val ys = 0 := by rw [← ey.out]; rfl
    have HZ := Lib.hid hz
    clear CM hz
    go_wp2_with fail
    go_ret3
    exact ⟨fun _ => rfl, fun h => absurd HZ.out (by omega), Below.refl _ _⟩
  · have hy00 : (ny : Int) ≠ 0 := by omega
    have hbe : (((ny : Nat) : Int) == 0) = false := by simpa using hy00
    have hyp : Hid (0 < val ys) := Lib.hid (by
      rw [← ey.out]
      have := cy.ge vy (by have := HNY.out; omega)
      exact Nat.lt_of_lt_of_le (Rpow_pos _) this)
    go_wp2_with fail
    refine (CM _ hc hc').mono ?_; rintro e w0 ⟨rfl, hd0⟩
    have hB0 := hd0.belowB (B := w.heap.size)
    have hx0 := hx.below hd0.below
    have hy0' := hy.below hd0.below
    clear CM hc hc' hx hy hd0
    by_cases hlt : val xs < val ys
    · rw [cmpI_lt hlt]
      have HD := Lib.hid (show val xs / val ys = 0 ∧ val xs % val ys = val xs from ⟨Nat.div_eq_of_lt hlt, Nat.mod_eq_of_lt hlt⟩)
      clear hlt
      go_wp2_with (at_builtin; refine wpList_append_two _ rfl _ _ 23 22 rfl w.heap.size 25 25 .u32 4 Try.underlying23 Try.underlying22 info32 _ [] rfl (New.nil _ _ _ _) _ _ _ x rfl rfl hx0.cells (by simp; omega) (by simp; omega) hB0.size ?_)
      intro v1 w1 hn1 hg1 _
      have hB1 : Below w.heap.size w w1 := hB0.grown hg1 hB0.size fun g hg => by simp [Value.ownBlock] at hg
      clear hg1
      go_wp2_with fail
      go_ret3
      refine ⟨fun h => absurd h (by have := hyp.out; omega), fun _ => ⟨_, _, rfl, ?_, ⟨x, hn1, cx, vx, by rw [ex.out, HD.out.2]⟩, by simp [Value.ownBlock]⟩, hB1⟩
      rw [HD.out.1]
      exact ⟨[], New.nil _ _ _ _, Canon.nil, .nil (by omega), rfl⟩
    · have hge : ¬ cmpI (val xs) (val ys) < 0 := by unfold cmpI; rw [if_neg hlt]; split <;> omega
      have hrg := cmpI_rng (val xs) (val ys)
      have HLT := Lib.hid hlt
      generalize cmpI (val xs) (val ys) = cc at *
      clear hlt
      have hnm : ny ≤ x.length := by
        have := cy.len_lt vy (n := x.length) (by rw [ey.out]; exact Nat.lt_of_le_of_lt (Nat.not_lt.1 HLT.out) (by rw [← ex.out]; exact val_lt vx))
        rw [← HNY.out] at this
        exact this
      by_cases h1 : ny = 1
      · subst h1
        obtain ⟨b, off, rfl, hcc⟩ := hy0'.cells (by rw [← HNY.out]; omega)
        have hc0 := hcc 0 (by rw [← HNY.out]; omega)
        rw [← lb_cast vy, Nat.add_zero] at hc0
        have hd := lb_lt vy 0
        have e1 : Hid (val ys = lb y 0) := Lib.hid (by
          rw [← ey.out]
          have := val_take_next y 0
          rw [List.take_of_length_le (by rw [← HNY.out]; omega)] at this
          simpa [val] using this)
        obtain ⟨d, hde⟩ : ∃ d, d = lb y 0 := ⟨_, rfl⟩
        rw [← hde] at hc0 hd e1
        have hdp : 0 < d := by have := hyp.out; rw [e1.out] at this; exact this
        have hd4 : (d : Int) ≤ 4294967295 := by unfold R at hd; omega
        have cs := nshort_c a _ x d w0 hx0 vx hd hdp hlx
        clear hcc hde hx0 hy0' hd
        go_wp2_with fail
        refine cs.mono ?_; rintro e w1 ⟨g, L, r, rfl, hg, hL, lL, uL, hv, hr, hb1⟩
        have hB1 := hB0.trans (hb1.mono hB0.size)
        have hgB : w.heap.size ≤ g := Nat.le_trans hB0.size hg
        have hrR : r < 18446744073709551616 := by omega
        have hr4 : (r : Int) ≤ 4294967295 := by omega
        have pc := proper_c _ _ _ _ (hL.sl_full (by omega))
        have HLL := Lib.hid lL
        have HV := Lib.hid hv
        have HDR := Lib.hid hr
        rw [lL] at pc
        have fc := FromUint_c r w1 hrR
        have q1 : NatRes1 w.heap.size w1 _ (val L) := .of_blk hL hgB uL rfl (by omega)
        clear cs hb1 lL hv hr
        go_wp2_with fail
        refine pc.mono ?_; rintro e w' ⟨rfl, rfl⟩
        go_wp2_with fail
        refine fc.mono ?_; rintro e w2 ⟨vr, rfl, hres, hb2⟩
        have hB2 := hB1.trans (hb2.mono hB1.size)
        have hgl := hL.lt
        clear pc fc
        go_wp2_with fail
        go_ret3
        obtain ⟨gq, zq, ho, hn, hc, hu, hv⟩ := q1
        obtain ⟨gr, zr, ho2, hn2, hc2, hu2, hv2⟩ := hres
        have hv3 := HV.out
        rw [ex.out] at hv3
        refine ⟨fun h => absurd h (by have := hyp.out; omega), fun _ => ⟨_, _, rfl, ⟨zq, hn.below hb2 (fun g h => ?_), hc, hu, ?_⟩, ⟨zr, hn2.mono hB1.size, hc2, hu2, ?_⟩, ?_⟩, hB2⟩
        · simp [Value.ownBlock] at h; omega
        · rw [hv, e1.out, hv3, Nat.mul_add_div hdp, Nat.div_eq_of_lt HDR.out, Nat.add_zero]
        · rw [hv2, e1.out, hv3, Nat.mul_add_mod, Nat.mod_eq_of_lt HDR.out]
        · intro g' h1 h2
          have := (hn2.lt g' h2).1
          simp [Value.ownBlock] at h1
          omega
      · have hb1 : (((ny : Nat) : Int) == 1) = false := by simp; omega
        obtain ⟨k, hk⟩ : ∃ k, ny = k + 2 := ⟨ny - 2, by omega⟩
        subst hk
        have cl := nlong_c a a' _ _ k x.length x y w0 hx0 hy0' vx vy rfl HNY.out.symm hnm hlx (by
          have := cy.last (by rw [← HNY.out]; omega)
          rw [← HNY.out] at this
          have hc := lb_cast vy (k + 1)
          intro h0
          rw [h0] at hc
          exact this hc.symm)
        rw [← HNY.out] at cl
        clear hx0 hy0'
        go_wp2_with fail
        refine cl.mono ?_; rintro e w1 ⟨gq, gu, Q, U, rfl, hgq, hgu, hne, hQ, hU, uQ, uU, lQ, lU, hvq, hvu, hb1⟩
        have hB1 := hB0.trans (hb1.mono hB0.size)
        rw [← HNY.out] at hvu ⊢
        have p1 := proper_c _ _ _ _ (hQ.sl_full (by omega))
        have lT : (U.take (k + 2)).length = k + 2 := by simp; omega
        have p2 := proper_c _ _ _ _ (hU.sl (k + 2) (x.length + 1) (by omega) (by omega))
        rw [lT] at p2
        have HVQ := Lib.hid hvq
        have HVU := Lib.hid hvu
        have HLQ := Lib.hid lQ
        have HLU := Lib.hid lU
        have HLT2 := Lib.hid lT
        have hsz := hB0.size
        obtain ⟨lq, hlq⟩ : ∃ lq, lq = Q.length := ⟨_, rfl⟩
        rw [← hlq] at p1 ⊢
        have HQL := Lib.hid hlq
        have hlq3 : lq ≤ 35184372088832 := by omega
        clear cl hb1 hvq hvu lQ lU lT hlq
        go_wp2_with fail
        refine p1.mono ?_; rintro e w' ⟨rfl, rfl⟩
        go_wp2_with fail
        refine p2.mono ?_; rintro e w' ⟨rfl, rfl⟩
        clear p1 p2
        go_wp2_with fail
        go_ret3
        obtain ⟨zq, hn, hc, hu, hv⟩ := NatRes.of_blk (B := w.heap.size) hQ (by omega) uQ rfl (by have := HQL.out; omega)
        refine ⟨fun h => absurd h (by have := hyp.out; omega), fun _ => ⟨_, _, rfl, ⟨zq, hn, hc, hu, ?_⟩, ⟨norm (U.take (k + 2)), ?_, Canon.norm _, U32.norm (InR.take (by omega) uU _), ?_⟩, ?_⟩, hB1⟩
        · rw [hv, HVQ.out, ex.out, ey.out]
        · have ht := topz_le (U.take (k + 2))
          rw [HLT2.out] at ht
          have e1 : norm (U.take (k + 2)) = U.take (topz (U.take (k + 2))) := by rw [norm, List.take_take, Nat.min_eq_left ht]
          rw [length_norm (U.take (k + 2)), e1]
          exact New.of_blk hU (show w.heap.size ≤ gu by omega) (topz (U.take (k + 2))) (topz (U.take (k + 2))) (Nat.le_refl _) (by rw [HLU.out]; omega) (by omega)
        · rw [val_norm, HVU.out, ex.out, ey.out]
        · intro g' h1 h2
          simp [Value.ownBlock] at h1 h2
          omega
end Go.Proofs.Ytnlmkikaaifcmaa
