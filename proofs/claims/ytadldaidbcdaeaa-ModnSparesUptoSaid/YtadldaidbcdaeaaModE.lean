/- The calls of modn in handier words. (Printed by gen_lawsevena.py.) -/
import Derived.Test.YtadldaidbcdaeaaModD
set_option linter.unusedVariables false
set_option linter.unusedSimpArgs false
namespace Go.Sg
/-- How many limbs a number has. -/
def nl (n : Nat) : Nat := (bl n + 31) / 32
theorem nl_zero : nl 0 = 0 := rfl
theorem topz_nl {xs : List Int} (u : U32 xs) : topz xs = nl (val xs) := by
  rw [← length_norm, ← val_norm]
  obtain ⟨z, hz⟩ : ∃ z, z = norm xs := ⟨_, rfl⟩
  have cz := Canon.norm xs
  have uz := u.norm
  rw [← hz] at cz uz ⊢
  rcases Nat.eq_zero_or_pos z.length with h | h
  · have : z = [] := List.eq_nil_of_length_eq_zero h
    subst this; rfl
  · have h1 := bl_val uz cz h
    have h2 := cz.last h
    have h3 : lb z (z.length - 1) ≠ 0 := by
      intro h4
      have := lb_cast uz (z.length - 1)
      rw [h4] at this
      exact h2 this.symm
    have h4 := bl_pos h3
    have h5 := (bl_le_iff (lb z (z.length - 1)) 32).2 (by have := lb_lt uz (z.length - 1); unfold R at this; omega)
    unfold nl
    omega
theorem nl_big (n : Nat) : decide (128 < nl n) = bigB n := by
  unfold bigB nl
  rw [decide_eq_decide]
  omega
theorem bigB_le {n m : Nat} (h : n ≤ m) (hm : bigB m = false) : bigB n = false := by
  have h1 := of_decide_eq_false hm
  refine decide_eq_false ?_
  have := (bl_le_iff n (bl m)).2 (Nat.lt_of_le_of_lt h (lt_bl m))
  omega
theorem bigB_zero : bigB 0 = false := rfl
theorem wrongN3 (a b m : Nat) : wrongN [a, b, m] = if bigB a = true ∨ bigB b = true ∨ bigB m = true then 10 else if m < 2 then 60 else 0 := by
  unfold wrongN
  simp only [List.any_cons, List.any_nil, Bool.or_false, List.getLastD_cons, List.getLastD_nil, Bool.or_eq_true]
theorem wrongN2 (a m : Nat) : wrongN [a, m] = wrongN [a, 0, m] := by
  rw [wrongN3]
  unfold wrongN
  simp only [List.any_cons, List.any_nil, Bool.or_false, List.getLastD_cons, List.getLastD_nil, Bool.or_eq_true, bigB_zero, Bool.false_eq_true, false_or]
/-- Nothing is refused. -/
structure Ok3 (a b m : Nat) : Prop where
  pa : bigB a = false
  pb : bigB b = false
  pm : bigB m = false
  two : 2 ≤ m
theorem Ok3.code {a b m : Nat} (h : Ok3 a b m) : wrongN [a, b, m] = 0 := by
  have := h.two
  rw [wrongN3, h.pa, h.pb, h.pm, if_neg (by simp), if_neg (by omega)]
theorem Ok3.of {a b m : Nat} (h : wrongN [a, b, m] = 0) : Ok3 a b m := by
  rw [wrongN3] at h
  split at h
  · cases h
  · rename_i h1
    split at h
    · cases h
    · refine ⟨?_, ?_, ?_, by omega⟩
      · cases hb : bigB a
        · rfl
        · exact absurd (.inl hb) h1
      · cases hb : bigB b
        · rfl
        · exact absurd (.inr (.inl hb)) h1
      · cases hb : bigB m
        · rfl
        · exact absurd (.inr (.inr hb)) h1
theorem Ok3.lim {a b m : Nat} (h : Ok3 a b m) : Lim 128 m := bigB_lim h.pm
theorem Ok3.rest {a b m : Nat} (h : Ok3 a b m) (n : Nat) : bigB (n % m) = false := bigB_le (Nat.le_of_lt (Nat.mod_lt n (by have := h.two; omega))) h.pm
end Go.Sg
namespace Go.Proofs.Ytadldaidbcdaeaa
open Go.RowKit Go.Sg

/-- A slice that reads as a number without noughts on top. -/
def CanAt (w : World) (v : Value) (n : Nat) : Prop := ∃ a c zs, v = .slice a zs.length c ∧ Sl .u32 w a c zs ∧ Canon zs ∧ U32 zs ∧ val zs = n ∧ zs.length ≤ 17592186044415
theorem CanAt.below {w w' : World} {v : Value} {n : Nat} (h : CanAt w v n) (hb : Below w.heap.size w w') : CanAt w' v n := by
  obtain ⟨a, c, zs, e, s, cz, u, hv, hl⟩ := h
  exact ⟨a, c, zs, e, s.below hb, cz, u, hv, hl⟩
theorem CanAt.len {w : World} {v : Value} {n : Nat} (h : CanAt w v n) : ∃ a c, v = .slice a (nl n) c := by
  obtain ⟨a, c, zs, e, s, cz, u, hv, hl⟩ := h
  refine ⟨a, c, ?_⟩
  rw [e, ← hv, ← topz_nl u, cz]
theorem num_nil (w : World) : NumAt w (.slice none 0 0) 0 := ⟨none, 0, [], rfl, .nil _ _ _ _ (by omega), .nil (by omega), rfl, by simp⟩
theorem CanAt.num {w : World} {v : Value} {n : Nat} (h : CanAt w v n) : NumAt w v n := by
  obtain ⟨a, c, zs, e, s, cz, u, hv, hl⟩ := h
  exact ⟨a, c, zs, e, s, u, hv, hl⟩
theorem NatRes.can {B : Nat} {w : World} {v : Value} {n k : Nat} (h : NatRes B w v n) (m : Lim k n) (hk : k ≤ 17592186044415) : CanAt w v n := by
  obtain ⟨a, c, zs, e, s, cz, u, hv⟩ := h.sl
  exact ⟨a, c, zs, e, s, cz, u, hv, Nat.le_trans ((Lim.eq m hv).len cz u) hk⟩
def OkPost (n : Nat) (W : World) (e : Ending) (w' : World) : Prop := ∃ v, e = .returned (.tuple #[v, .int .i64 0]) ∧ CanAt w' v n ∧ Below W.heap.size W w'
def NoPost (code : Int) (W : World) (e : Ending) (w' : World) : Prop := e = .returned (.tuple #[.slice none 0 0, .int .i64 code]) ∧ Below W.heap.size W w'
def CanPost (n : Nat) (W : World) (e : Ending) (w' : World) : Prop := ∃ v, e = .returned v ∧ CanAt w' v n ∧ Below W.heap.size W w'
theorem NatPost.can {n k : Nat} {W : World} {e : Ending} {w' : World} (h : NatPost n W e w') (m : Lim k n) (hk : k ≤ 17592186044415) : CanPost n W e w' := by
  obtain ⟨v, rfl, hn, hb⟩ := h
  exact ⟨v, rfl, hn.can m hk, hb⟩

section
variable {v v' v'' : Value} {n n' m : Nat} {W : World}
theorem ModPost.ok {code : Int} {r k : Nat} {e : Ending} {w' : World} (h : ModPost code r W e w') (hc : code = 0) (l : Lim k r) (hk : k ≤ 17592186044415) : OkPost r W e w' := by
  obtain ⟨v, rfl, hr⟩ := h.2.1 hc
  exact ⟨v, rfl, hr.can l hk, h.2.2⟩
theorem ModPost.no {code : Int} {r : Nat} {e : Ending} {w' : World} (h : ModPost code r W e w') (hc : code ≠ 0) : NoPost code W e w' := ⟨h.1 hc, h.2.2⟩
theorem mAdd_v (h : NumAt W v n) (h' : NumAt W v' n') (h'' : NumAt W v'' m) : Calls Try.prog 72 #[v, v', v''] W (ModPost (wrongN [n, n', m]) ((n + n') % m) W) := by
  obtain ⟨a, c, zs, rfl, s, u, rfl, hl⟩ := h
  obtain ⟨a', c', zs', rfl, s', u', rfl, hl'⟩ := h'
  obtain ⟨a'', c'', zs'', rfl, s'', u'', rfl, hl''⟩ := h''
  exact mAdd_c _ _ _ _ _ _ _ _ _ _ s s' s'' u u' u'' hl hl' hl''
theorem mAdd_ok (h : NumAt W v n) (h' : NumAt W v' n') (h'' : NumAt W v'' m) (ok : Ok3 n n' m) : Calls Try.prog 72 #[v, v', v''] W (OkPost ((n + n') % m) W) :=
  (mAdd_v h h' h'').mono fun e w' hp => hp.ok ok.code (ok.lim.of_lt (Nat.mod_lt _ (by have := ok.two; omega))) (by omega)
theorem mAdd_no (h : NumAt W v n) (h' : NumAt W v' n') (h'' : NumAt W v'' m) {code : Int} (ec : wrongN [n, n', m] = code) (no : code ≠ 0) : Calls Try.prog 72 #[v, v', v''] W (NoPost code W) :=
  (mAdd_v h h' h'').mono fun e w' hp => by subst ec; exact hp.no no
theorem mMul_v (h : NumAt W v n) (h' : NumAt W v' n') (h'' : NumAt W v'' m) : Calls Try.prog 67 #[v, v', v''] W (ModPost (wrongN [n, n', m]) (n * n' % m) W) := by
  obtain ⟨a, c, zs, rfl, s, u, rfl, hl⟩ := h
  obtain ⟨a', c', zs', rfl, s', u', rfl, hl'⟩ := h'
  obtain ⟨a'', c'', zs'', rfl, s'', u'', rfl, hl''⟩ := h''
  exact mMul_c _ _ _ _ _ _ _ _ _ _ s s' s'' u u' u'' hl hl' hl''
theorem mMul_ok (h : NumAt W v n) (h' : NumAt W v' n') (h'' : NumAt W v'' m) (ok : Ok3 n n' m) : Calls Try.prog 67 #[v, v', v''] W (OkPost (n * n' % m) W) :=
  (mMul_v h h' h'').mono fun e w' hp => hp.ok ok.code (ok.lim.of_lt (Nat.mod_lt _ (by have := ok.two; omega))) (by omega)
theorem mMul_no (h : NumAt W v n) (h' : NumAt W v' n') (h'' : NumAt W v'' m) {code : Int} (ec : wrongN [n, n', m] = code) (no : code ≠ 0) : Calls Try.prog 67 #[v, v', v''] W (NoPost code W) :=
  (mMul_v h h' h'').mono fun e w' hp => by subst ec; exact hp.no no
theorem mExp_v (h : NumAt W v n) (h' : NumAt W v' n') (h'' : NumAt W v'' m) : Calls Try.prog 71 #[v, v', v''] W (ModPost (wrongN [n, n', m]) (n ^ n' % m) W) := by
  obtain ⟨a, c, zs, rfl, s, u, rfl, hl⟩ := h
  obtain ⟨a', c', zs', rfl, s', u', rfl, hl'⟩ := h'
  obtain ⟨a'', c'', zs'', rfl, s'', u'', rfl, hl''⟩ := h''
  exact mExp_c _ _ _ _ _ _ _ _ _ _ s s' s'' u u' u'' hl hl' hl''
theorem mExp_ok (h : NumAt W v n) (h' : NumAt W v' n') (h'' : NumAt W v'' m) (ok : Ok3 n n' m) : Calls Try.prog 71 #[v, v', v''] W (OkPost (n ^ n' % m) W) :=
  (mExp_v h h' h'').mono fun e w' hp => hp.ok ok.code (ok.lim.of_lt (Nat.mod_lt _ (by have := ok.two; omega))) (by omega)
theorem mExp_no (h : NumAt W v n) (h' : NumAt W v' n') (h'' : NumAt W v'' m) {code : Int} (ec : wrongN [n, n', m] = code) (no : code ≠ 0) : Calls Try.prog 71 #[v, v', v''] W (NoPost code W) :=
  (mExp_v h h' h'').mono fun e w' hp => by subst ec; exact hp.no no
theorem mSub_v (h : NumAt W v n) (h' : NumAt W v' n') (h'' : NumAt W v'' m) : Calls Try.prog 73 #[v, v', v''] W (ModPost (wrongN [n, n', m]) (subM (n % m) (n' % m) m) W) := by
  obtain ⟨a, c, zs, rfl, s, u, rfl, hl⟩ := h
  obtain ⟨a', c', zs', rfl, s', u', rfl, hl'⟩ := h'
  obtain ⟨a'', c'', zs'', rfl, s'', u'', rfl, hl''⟩ := h''
  exact mSub_c _ _ _ _ _ _ _ _ _ _ s s' s'' u u' u'' hl hl' hl''
theorem mSub_ok (h : NumAt W v n) (h' : NumAt W v' n') (h'' : NumAt W v'' m) (ok : Ok3 n n' m) : Calls Try.prog 73 #[v, v', v''] W (OkPost (subM (n % m) (n' % m) m) W) :=
  (mSub_v h h' h'').mono fun e w' hp => hp.ok ok.code (ok.lim.of_lt (subM_lt (Nat.mod_lt _ (by have := ok.two; omega)) (Nat.mod_lt _ (by have := ok.two; omega)))) (by omega)
theorem mSub_no (h : NumAt W v n) (h' : NumAt W v' n') (h'' : NumAt W v'' m) {code : Int} (ec : wrongN [n, n', m] = code) (no : code ≠ 0) : Calls Try.prog 73 #[v, v', v''] W (NoPost code W) :=
  (mSub_v h h' h'').mono fun e w' hp => by subst ec; exact hp.no no
theorem mInv_v (h : NumAt W v n) (h'' : NumAt W v'' m) : Calls Try.prog 64 #[v, v''] W (InvPost n m (wrongN [n, 0, m]) W) := by
  obtain ⟨a, c, zs, rfl, s, u, rfl, hl⟩ := h
  obtain ⟨a'', c'', zs'', rfl, s'', u'', rfl, hl''⟩ := h''
  rw [← wrongN2]
  exact mInv_c _ _ _ _ _ _ _ s s'' u u'' hl hl''
theorem mInv_no (h : NumAt W v n) (h'' : NumAt W v'' m) {code : Int} (ec : wrongN [n, 0, m] = code) (no : code ≠ 0) : Calls Try.prog 64 #[v, v''] W (NoPost code W) :=
  (mInv_v h h'').mono fun e w' hp => by subst ec; exact ⟨hp.1 no, hp.2.2.2⟩
theorem mInv_none (h : NumAt W v n) (h'' : NumAt W v'' m) (ok : Ok3 n 0 m) (hg : Nat.gcd n m ≠ 1) : Calls Try.prog 64 #[v, v''] W (NoPost 61 W) :=
  (mInv_v h h'').mono fun e w' hp => ⟨hp.2.1 ok.code hg, hp.2.2.2⟩
def InvOk (n m : Nat) (W : World) (e : Ending) (w' : World) : Prop := ∃ v x, e = .returned (.tuple #[v, .int .i64 0]) ∧ CanAt w' v x ∧ x < m ∧ x * n % m = 1 ∧ Below W.heap.size W w'
theorem mInv_ok (h : NumAt W v n) (h'' : NumAt W v'' m) (ok : Ok3 n 0 m) (hg : Nat.gcd n m = 1) : Calls Try.prog 64 #[v, v''] W (InvOk n m W) :=
  (mInv_v h h'').mono fun e w' hp => by
    obtain ⟨v, x, rfl, hr, hx, h1⟩ := hp.2.2.1 ok.code hg
    exact ⟨v, x, rfl, hr.can (ok.lim.of_lt hx) (by omega), hx, h1, hp.2.2.2⟩
theorem add_can (h : NumAt W v n) (h' : NumAt W v' m) {k l : Nat} (a : Lim k n) (b : Lim l m) (hk : k + l ≤ 17592186044414) : Calls Try.prog 24 #[v, v'] W (CanPost (n + m) W) :=
  (add_v h h').mono fun e w' hp => hp.can (a.add b) (by omega)
theorem mul_can (h : NumAt W v n) (h' : NumAt W v' m) {k l : Nat} (a : Lim k n) (b : Lim l m) (hk : k + l ≤ 17592186044414) : Calls Try.prog 26 #[v, v'] W (CanPost (n * m) W) :=
  (mul_v h h').mono fun e w' hp => hp.can (a.mul b) (by omega)
def DivOk (n m : Nat) (W : World) (e : Ending) (w' : World) : Prop := ∃ vq vr, e = .returned (.tuple #[vq, vr, .int .i64 0]) ∧ CanAt w' vq (n / m) ∧ CanAt w' vr (n % m) ∧ Below W.heap.size W w'
theorem div_can (h : NumAt W v n) (h' : NumAt W v' m) {k : Nat} (a : Lim k n) (hk : k ≤ 17592186044415) (h0 : 0 < m) : Calls Try.prog 52 #[v, v'] W (DivOk n m W) :=
  (div_v h h').mono fun e w' hp => by
    obtain ⟨vq, vr, rfl, hq, hr, _⟩ := hp.2.1 h0
    exact ⟨vq, vr, rfl, hq.can (a.le (Nat.div_le_self _ _)) hk, hr.can (a.le (Nat.mod_le _ _)) hk, hp.2.2⟩
end
theorem NumAt.lim {w : World} {v : Value} {n : Nat} (h : NumAt w v n) : Lim 17592186044415 n := by
  obtain ⟨a, c, zs, rfl, s, u, rfl, hl⟩ := h
  exact .of_list u hl
theorem div_ok {v v' : Value} {n m : Nat} {W : World} (h : NumAt W v n) (h' : NumAt W v' m) (h0 : 0 < m) : Calls Try.prog 52 #[v, v'] W (DivOk n m W) := div_can h h' h.lim (by omega) h0
theorem can_lit (W : World) (g x : Nat) (X : Int) (hX : X = (x : Int)) (hg : g = W.heap.size) (h0 : x ≠ 0) (hx : x < 4294967296) : CanAt (W.alloc (.cells #[.int .u32 X] 52)) (.slice (some ⟨g, 0, none⟩) 1 1) x := by
  subst hg hX
  have hk : Blk (W.alloc (.cells #[.int .u32 (x : Int)] 52)) W.heap.size .u32 52 [(x : Int)] := cells_new .u32 W 52 [(x : Int)] #[.int .u32 (x : Int)] rfl _ rfl
  exact ⟨_, _, [(x : Int)], rfl, hk.sl_full (by simp), .of_last fun _ => by simp [nth]; omega, .of_mem (by omega) (by simp; omega), by simp [val_one], by simp⟩

end Go.Proofs.Ytadldaidbcdaeaa
