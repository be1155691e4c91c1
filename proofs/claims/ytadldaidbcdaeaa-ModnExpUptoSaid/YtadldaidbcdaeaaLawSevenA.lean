/- signetlaw7: same, limbs, refuses, is, by their contracts; the calls of modn in handier words. (Printed by gen_lawsevena.py.) -/
import Derived.Test.YtadldaidbcdaeaaModD
import Derived.Test.YtadldaidbcdaeaaOpen
import Derived.Test.YtadldaidbcdaeaaRefD
set_option linter.unusedVariables false
set_option linter.unusedSimpArgs false
namespace Go.Sg
/-- How many limbs a number has. -/
def nl (n : Nat) : Nat := (bl n + 31) / 32
theorem nl_zero : nl 0 = 0 := rfl
theorem topz_nl {xs : List Int} (u : U32 xs) : topz xs = nl (val xs) := by
  rw [← length_norm, ← val_norm]
  obtain ⟨z, hz⟩ : ∃ z, z = norm xs := ⟨_, rfl⟩
  have cz := Canon.norm xs
  have uz := u.norm
  rw [← hz] at cz uz ⊢
  rcases Nat.eq_zero_or_pos z.length with h | h
  · have : z = [] := List.eq_nil_of_length_eq_zero h
    subst this; rfl
  · have h1 := bl_val uz cz h
    have h2 := cz.last h
    have h3 : lb z (z.length - 1) ≠ 0 := by
      intro h4
      have := lb_cast uz (z.length - 1)
      rw [h4] at this
      exact h2 this.symm
    have h4 := bl_pos h3
    have h5 := (bl_le_iff (lb z (z.length - 1)) 32).2 (by have := lb_lt uz (z.length - 1); unfold R at this; omega)
    unfold nl
    omega
theorem nl_big (n : Nat) : decide (128 < nl n) = bigB n := by
  unfold bigB nl
  rw [decide_eq_decide]
  omega
theorem bigB_le {n m : Nat} (h : n ≤ m) (hm : bigB m = false) : bigB n = false := by
  have h1 := of_decide_eq_false hm
  refine decide_eq_false ?_
  have := (bl_le_iff n (bl m)).2 (Nat.lt_of_le_of_lt h (lt_bl m))
  omega
theorem bigB_zero : bigB 0 = false := rfl
theorem wrongN3 (a b m : Nat) : wrongN [a, b, m] = if bigB a = true ∨ bigB b = true ∨ bigB m = true then 10 else if m < 2 then 60 else 0 := by
  unfold wrongN
  simp only [List.any_cons, List.any_nil, Bool.or_false, List.getLastD_cons, List.getLastD_nil, Bool.or_eq_true]
theorem wrongN2 (a m : Nat) : wrongN [a, m] = wrongN [a, 0, m] := by
  rw [wrongN3]
  unfold wrongN
  simp only [List.any_cons, List.any_nil, Bool.or_false, List.getLastD_cons, List.getLastD_nil, Bool.or_eq_true, bigB_zero, Bool.false_eq_true, false_or]
/-- Nothing is refused. -/
structure Ok3 (a b m : Nat) : Prop where
  pa : bigB a = false
  pb : bigB b = false
  pm : bigB m = false
  two : 2 ≤ m
theorem Ok3.code {a b m : Nat} (h : Ok3 a b m) : wrongN [a, b, m] = 0 := by
  have := h.two
  rw [wrongN3, h.pa, h.pb, h.pm, if_neg (by simp), if_neg (by omega)]
theorem Ok3.of {a b m : Nat} (h : wrongN [a, b, m] = 0) : Ok3 a b m := by
  rw [wrongN3] at h
  split at h
  · cases h
  · rename_i h1
    split at h
    · cases h
    · refine ⟨?_, ?_, ?_, by omega⟩
      · cases hb : bigB a
        · rfl
        · exact absurd (.inl hb) h1
      · cases hb : bigB b
        · rfl
        · exact absurd (.inr (.inl hb)) h1
      · cases hb : bigB m
        · rfl
        · exact absurd (.inr (.inr hb)) h1
theorem Ok3.lim {a b m : Nat} (h : Ok3 a b m) : Lim 128 m := bigB_lim h.pm
theorem Ok3.rest {a b m : Nat} (h : Ok3 a b m) (n : Nat) : bigB (n % m) = false := bigB_le (Nat.le_of_lt (Nat.mod_lt n (by have := h.two; omega))) h.pm
end Go.Sg
namespace Go.Proofs.Ytadldaidbcdaeaa
open Go.RowKit Go.Sg

/-- A slice that reads as a number without noughts on top. -/
def CanAt (w : World) (v : Value) (n : Nat) : Prop := ∃ a c zs, v = .slice a zs.length c ∧ Sl .u32 w a c zs ∧ Canon zs ∧ U32 zs ∧ val zs = n ∧ zs.length ≤ 17592186044415
theorem CanAt.below {w w' : World} {v : Value} {n : Nat} (h : CanAt w v n) (hb : Below w.heap.size w w') : CanAt w' v n := by
  obtain ⟨a, c, zs, e, s, cz, u, hv, hl⟩ := h
  exact ⟨a, c, zs, e, s.below hb, cz, u, hv, hl⟩
theorem CanAt.len {w : World} {v : Value} {n : Nat} (h : CanAt w v n) : ∃ a c, v = .slice a (nl n) c := by
  obtain ⟨a, c, zs, e, s, cz, u, hv, hl⟩ := h
  refine ⟨a, c, ?_⟩
  rw [e, ← hv, ← topz_nl u, cz]
theorem num_nil (w : World) : NumAt w (.slice none 0 0) 0 := ⟨none, 0, [], rfl, .nil _ _ _ _ (by omega), .nil (by omega), rfl, by simp⟩
theorem CanAt.num {w : World} {v : Value} {n : Nat} (h : CanAt w v n) : NumAt w v n := by
  obtain ⟨a, c, zs, e, s, cz, u, hv, hl⟩ := h
  exact ⟨a, c, zs, e, s, u, hv, hl⟩
theorem NatRes.can {B : Nat} {w : World} {v : Value} {n k : Nat} (h : NatRes B w v n) (m : Lim k n) (hk : k ≤ 17592186044415) : CanAt w v n := by
  obtain ⟨a, c, zs, e, s, cz, u, hv⟩ := h.sl
  exact ⟨a, c, zs, e, s, cz, u, hv, Nat.le_trans ((Lim.eq m hv).len cz u) hk⟩
def OkPost (n : Nat) (W : World) (e : Ending) (w' : World) : Prop := ∃ v, e = .returned (.tuple #[v, .int .i64 0]) ∧ CanAt w' v n ∧ Below W.heap.size W w'
def NoPost (code : Int) (W : World) (e : Ending) (w' : World) : Prop := e = .returned (.tuple #[.slice none 0 0, .int .i64 code]) ∧ Below W.heap.size W w'
def CanPost (n : Nat) (W : World) (e : Ending) (w' : World) : Prop := ∃ v, e = .returned v ∧ CanAt w' v n ∧ Below W.heap.size W w'
theorem NatPost.can {n k : Nat} {W : World} {e : Ending} {w' : World} (h : NatPost n W e w') (m : Lim k n) (hk : k ≤ 17592186044415) : CanPost n W e w' := by
  obtain ⟨v, rfl, hn, hb⟩ := h
  exact ⟨v, rfl, hn.can m hk, hb⟩

section
variable {v v' v'' : Value} {n n' m : Nat} {W : World}
theorem ModPost.ok {code : Int} {r k : Nat} {e : Ending} {w' : World} (h : ModPost code r W e w') (hc : code = 0) (l : Lim k r) (hk : k ≤ 17592186044415) : OkPost r W e w' := by
  obtain ⟨v, rfl, hr⟩ := h.2.1 hc
  exact ⟨v, rfl, hr.can l hk, h.2.2⟩
theorem ModPost.no {code : Int} {r : Nat} {e : Ending} {w' : World} (h : ModPost code r W e w') (hc : code ≠ 0) : NoPost code W e w' := ⟨h.1 hc, h.2.2⟩
theorem mAdd_v (h : NumAt W v n) (h' : NumAt W v' n') (h'' : NumAt W v'' m) : Calls Try.prog 72 #[v, v', v''] W (ModPost (wrongN [n, n', m]) ((n + n') % m) W) := by
  obtain ⟨a, c, zs, rfl, s, u, rfl, hl⟩ := h
  obtain ⟨a', c', zs', rfl, s', u', rfl, hl'⟩ := h'
  obtain ⟨a'', c'', zs'', rfl, s'', u'', rfl, hl''⟩ := h''
  exact mAdd_c _ _ _ _ _ _ _ _ _ _ s s' s'' u u' u'' hl hl' hl''
theorem mAdd_ok (h : NumAt W v n) (h' : NumAt W v' n') (h'' : NumAt W v'' m) (ok : Ok3 n n' m) : Calls Try.prog 72 #[v, v', v''] W (OkPost ((n + n') % m) W) :=
  (mAdd_v h h' h'').mono fun e w' hp => hp.ok ok.code (ok.lim.of_lt (Nat.mod_lt _ (by have := ok.two; omega))) (by omega)
theorem mAdd_no (h : NumAt W v n) (h' : NumAt W v' n') (h'' : NumAt W v'' m) {code : Int} (ec : wrongN [n, n', m] = code) (no : code ≠ 0) : Calls Try.prog 72 #[v, v', v''] W (NoPost code W) :=
  (mAdd_v h h' h'').mono fun e w' hp => by subst ec; exact hp.no no
theorem mMul_v (h : NumAt W v n) (h' : NumAt W v' n') (h'' : NumAt W v'' m) : Calls Try.prog 67 #[v, v', v''] W (ModPost (wrongN [n, n', m]) (n * n' % m) W) := by
  obtain ⟨a, c, zs, rfl, s, u, rfl, hl⟩ := h
  obtain ⟨a', c', zs', rfl, s', u', rfl, hl'⟩ := h'
  obtain ⟨a'', c'', zs'', rfl, s'', u'', rfl, hl''⟩ := h''
  exact mMul_c _ _ _ _ _ _ _ _ _ _ s s' s'' u u' u'' hl hl' hl''
theorem mMul_ok (h : NumAt W v n) (h' : NumAt W v' n') (h'' : NumAt W v'' m) (ok : Ok3 n n' m) : Calls Try.prog 67 #[v, v', v''] W (OkPost (n * n' % m) W) :=
  (mMul_v h h' h'').mono fun e w' hp => hp.ok ok.code (ok.lim.of_lt (Nat.mod_lt _ (by have := ok.two; omega))) (by omega)
theorem mMul_no (h : NumAt W v n) (h' : NumAt W v' n') (h'' : NumAt W v'' m) {code : Int} (ec : wrongN [n, n', m] = code) (no : code ≠ 0) : Calls Try.prog 67 #[v, v', v''] W (NoPost code W) :=
  (mMul_v h h' h'').mono fun e w' hp => by subst ec; exact hp.no no
theorem mExp_v (h : NumAt W v n) (h' : NumAt W v' n') (h'' : NumAt W v'' m) : Calls Try.prog 71 #[v, v', v''] W (ModPost (wrongN [n, n', m]) (n ^ n' % m) W) := by
  obtain ⟨a, c, zs, rfl, s, u, rfl, hl⟩ := h
  obtain ⟨a', c', zs', rfl, s', u', rfl, hl'⟩ := h'
  obtain ⟨a'', c'', zs'', rfl, s'', u'', rfl, hl''⟩ := h''
  exact mExp_c _ _ _ _ _ _ _ _ _ _ s s' s'' u u' u'' hl hl' hl''
theorem mExp_ok (h : NumAt W v n) (h' : NumAt W v' n') (h'' : NumAt W v'' m) (ok : Ok3 n n' m) : Calls Try.prog 71 #[v, v', v''] W (OkPost (n ^ n' % m) W) :=
  (mExp_v h h' h'').mono fun e w' hp => hp.ok ok.code (ok.lim.of_lt (Nat.mod_lt _ (by have := ok.two; omega))) (by omega)
theorem mExp_no (h : NumAt W v n) (h' : NumAt W v' n') (h'' : NumAt W v'' m) {code : Int} (ec : wrongN [n, n', m] = code) (no : code ≠ 0) : Calls Try.prog 71 #[v, v', v''] W (NoPost code W) :=
  (mExp_v h h' h'').mono fun e w' hp => by subst ec; exact hp.no no
theorem mSub_v (h : NumAt W v n) (h' : NumAt W v' n') (h'' : NumAt W v'' m) : Calls Try.prog 73 #[v, v', v''] W (ModPost (wrongN [n, n', m]) (subM (n % m) (n' % m) m) W) := by
  obtain ⟨a, c, zs, rfl, s, u, rfl, hl⟩ := h
  obtain ⟨a', c', zs', rfl, s', u', rfl, hl'⟩ := h'
  obtain ⟨a'', c'', zs'', rfl, s'', u'', rfl, hl''⟩ := h''
  exact mSub_c _ _ _ _ _ _ _ _ _ _ s s' s'' u u' u'' hl hl' hl''
theorem mSub_ok (h : NumAt W v n) (h' : NumAt W v' n') (h'' : NumAt W v'' m) (ok : Ok3 n n' m) : Calls Try.prog 73 #[v, v', v''] W (OkPost (subM (n % m) (n' % m) m) W) :=
  (mSub_v h h' h'').mono fun e w' hp => hp.ok ok.code (ok.lim.of_lt (subM_lt (Nat.mod_lt _ (by have := ok.two; omega)) (Nat.mod_lt _ (by have := ok.two; omega)))) (by omega)
theorem mSub_no (h : NumAt W v n) (h' : NumAt W v' n') (h'' : NumAt W v'' m) {code : Int} (ec : wrongN [n, n', m] = code) (no : code ≠ 0) : Calls Try.prog 73 #[v, v', v''] W (NoPost code W) :=
  (mSub_v h h' h'').mono fun e w' hp => by subst ec; exact hp.no no
theorem mInv_v (h : NumAt W v n) (h'' : NumAt W v'' m) : Calls Try.prog 64 #[v, v''] W (InvPost n m (wrongN [n, 0, m]) W) := by
  obtain ⟨a, c, zs, rfl, s, u, rfl, hl⟩ := h
  obtain ⟨a'', c'', zs'', rfl, s'', u'', rfl, hl''⟩ := h''
  rw [← wrongN2]
  exact mInv_c _ _ _ _ _ _ _ s s'' u u'' hl hl''
theorem mInv_no (h : NumAt W v n) (h'' : NumAt W v'' m) {code : Int} (ec : wrongN [n, 0, m] = code) (no : code ≠ 0) : Calls Try.prog 64 #[v, v''] W (NoPost code W) :=
  (mInv_v h h'').mono fun e w' hp => by subst ec; exact ⟨hp.1 no, hp.2.2.2⟩
theorem mInv_none (h : NumAt W v n) (h'' : NumAt W v'' m) (ok : Ok3 n 0 m) (hg : Nat.gcd n m ≠ 1) : Calls Try.prog 64 #[v, v''] W (NoPost 61 W) :=
  (mInv_v h h'').mono fun e w' hp => ⟨hp.2.1 ok.code hg, hp.2.2.2⟩
def InvOk (n m : Nat) (W : World) (e : Ending) (w' : World) : Prop := ∃ v x, e = .returned (.tuple #[v, .int .i64 0]) ∧ CanAt w' v x ∧ x < m ∧ x * n % m = 1 ∧ Below W.heap.size W w'
theorem mInv_ok (h : NumAt W v n) (h'' : NumAt W v'' m) (ok : Ok3 n 0 m) (hg : Nat.gcd n m = 1) : Calls Try.prog 64 #[v, v''] W (InvOk n m W) :=
  (mInv_v h h'').mono fun e w' hp => by
    obtain ⟨v, x, rfl, hr, hx, h1⟩ := hp.2.2.1 ok.code hg
    exact ⟨v, x, rfl, hr.can (ok.lim.of_lt hx) (by omega), hx, h1, hp.2.2.2⟩
theorem add_can (h : NumAt W v n) (h' : NumAt W v' m) {k l : Nat} (a : Lim k n) (b : Lim l m) (hk : k + l ≤ 17592186044414) : Calls Try.prog 24 #[v, v'] W (CanPost (n + m) W) :=
  (add_v h h').mono fun e w' hp => hp.can (a.add b) (by omega)
theorem mul_can (h : NumAt W v n) (h' : NumAt W v' m) {k l : Nat} (a : Lim k n) (b : Lim l m) (hk : k + l ≤ 17592186044414) : Calls Try.prog 26 #[v, v'] W (CanPost (n * m) W) :=
  (mul_v h h').mono fun e w' hp => hp.can (a.mul b) (by omega)
def DivOk (n m : Nat) (W : World) (e : Ending) (w' : World) : Prop := ∃ vq vr, e = .returned (.tuple #[vq, vr, .int .i64 0]) ∧ CanAt w' vq (n / m) ∧ CanAt w' vr (n % m) ∧ Below W.heap.size W w'
theorem div_can (h : NumAt W v n) (h' : NumAt W v' m) {k : Nat} (a : Lim k n) (hk : k ≤ 17592186044415) (h0 : 0 < m) : Calls Try.prog 52 #[v, v'] W (DivOk n m W) :=
  (div_v h h').mono fun e w' hp => by
    obtain ⟨vq, vr, rfl, hq, hr, _⟩ := hp.2.1 h0
    exact ⟨vq, vr, rfl, hq.can (a.le (Nat.div_le_self _ _)) hk, hr.can (a.le (Nat.mod_le _ _)) hk, hp.2.2⟩
end

set_option maxHeartbeats 1000000 in
theorem same7_c (a a' : Option Addr) (cap cap' : Nat) (xs ys : List Int) (w : World) (hx : Sl .u32 w a cap xs) (hy : Sl .u32 w a' cap' ys) :
    Calls Try.prog 68 #[.slice a xs.length cap, .slice a' ys.length cap'] w (BoolPost (decide (xs = ys)) w) := by
  have hxm := Nat.le_trans hx.le hx.max
  have hym := Nat.le_trans hy.le hy.max
  by_cases hl : xs.length = ys.length
  · obtain ⟨n, hn⟩ : ∃ n, n = ys.length := ⟨_, rfl⟩
    have HN := Lib.hid hn
    have HX := Lib.hid (show xs.length = n by omega)
    rw [hl]
    rw [← hn] at hym ⊢
    clear hl hn hxm
    have hne : ((n : Int) != n) = false := by simp
    go_enter Try.func68, Try.ntmps68
    go_wp2_with fail
    go_loopw [5] (fun t wr => ∃ i : Nat, i ≤ n ∧ t = .int .i64 (i : Int) ∧ (∀ j, j < i → nth xs j = nth ys j) ∧ Dr w wr)
      (fun t _ => n - (intOf t).toNat)
    case atStart => exact ⟨0, by omega, rfl, fun j hj => by omega, .refl _⟩
    case round =>
      obtain ⟨i, hi, rfl, hall, nd, rfl⟩ := hrel
      have HA := Lib.hid hall
      clear hall
      by_cases hlt : i < n
      · obtain ⟨b, off, rfl, hcc⟩ := hx.cells (by have := HX.out; omega)
        obtain ⟨b', off', rfl, hcc'⟩ := hy.cells (by have := HN.out; omega)
        have c1 := hcc i (by have := HX.out; omega)
        have c2 := hcc' i (by have := HN.out; omega)
        clear hcc hcc'
        by_cases he : nth xs i = nth ys i
        · have HE := Lib.hid he
          have g1 : (nth xs i != nth ys i) = false := by rw [he]; simp
          clear he
          go_wp2_with fail
          go_quiet (fail)
          go_wp2_with fail
          go_roundw
          case rel => exact ⟨i + 1, by omega, by go_num, fun j hj => by
            by_cases h : j = i
            · rw [h]; exact HE.out
            · exact HA.out j (by omega), (by repeat (first | exact Dr.refl _ | apply Dr.drewN))⟩
          case measure => simp [intOf]; omega
        · have HE := Lib.hid (show decide (xs = ys) = false from decide_eq_false fun h => he (by rw [h]))
          have g1 : (nth xs i != nth ys i) = true := by simpa using he
          clear he
          go_wp2_with fail
          go_quiet (fail)
          go_wp2_with fail
          go_ret
          exact ⟨by rw [HE.out]; rfl, (by repeat (first | exact Dr.refl _ | apply Dr.drewN))⟩
      · have HE := Lib.hid (show decide (xs = ys) = true from decide_eq_true (eq_of_nth (by rw [HX.out, HN.out]) fun j hj => HA.out j (by have := HX.out; omega)))
        go_wp2_with fail
        go_ret
        exact ⟨by rw [HE.out]; rfl, nd, rfl⟩
  · have HE := Lib.hid (show decide (xs = ys) = false from decide_eq_false fun h => hl (by rw [h]))
    have hne : ((xs.length : Int) != ys.length) = true := by simp; omega
    clear hl
    go_enter Try.func68, Try.ntmps68
    go_wp2_with fail
    go_ret
    exact ⟨by rw [HE.out]; rfl, .refl _⟩


theorem same_can {v v' : Value} {n n' : Nat} {W : World} (h : CanAt W v n) (h' : CanAt W v' n') : Calls Try.prog 68 #[v, v'] W (BoolPost (decide (n = n')) W) := by
  obtain ⟨a, c, zs, rfl, s, cz, u, rfl, hl⟩ := h
  obtain ⟨a', c', zs', rfl, s', cz', u', rfl, hl'⟩ := h'
  have e : decide (val zs = val zs') = decide (zs = zs') := by
    rw [decide_eq_decide]
    exact ⟨fun h => cz.ext cz' u u' h, fun h => by rw [h]⟩
  rw [e]
  exact same7_c _ _ _ _ _ _ _ s s'
theorem same_yes {v v' : Value} {n n' : Nat} {W : World} (h : CanAt W v n) (h' : CanAt W v' n') (e : n = n') : Calls Try.prog 68 #[v, v'] W (BoolPost true W) := by
  have := same_can h h'
  rwa [decide_eq_true e] at this

set_option maxHeartbeats 1000000 in
theorem limbs_c (a : Option Addr) (cap : Nat) (zs : List Int) (w : World) (hc : Sl .u32 w a cap zs) :
    Calls Try.prog 70 #[.slice a zs.length cap] w fun e w' => e = .returned (.int .i64 (topz zs : Nat)) ∧ w = w' := by
  have hm := Nat.le_trans hc.le hc.max
  obtain ⟨l, hl1⟩ : ∃ l, l = zs.length := ⟨_, rfl⟩
  have HL := Lib.hid hl1
  rw [← hl1] at hm ⊢
  clear hl1
  go_enter Try.func70, Try.ntmps70
  go_wp2_with fail
  go_loop [3] (fun t => ∃ k : Nat, k ≤ l ∧ t = .int .i64 (k : Int) ∧ topz (zs.take k) = topz zs) (fun t => (intOf t).toNat)
  case atStart => exact ⟨l, Nat.le_refl _, rfl, by rw [List.take_of_length_le (by rw [HL.out]; exact Nat.le_refl _)]⟩
  case round =>
    obtain ⟨k, hk, rfl, ht⟩ := hrel
    have HT := Lib.hid ht
    clear ht
    by_cases hk0 : k = 0
    · subst hk0
      have fin : Hid (topz zs = 0) := Lib.hid (by rw [← HT.out]; rfl)
      go_wp2_with fail
      go_ret
      exact ⟨by rw [fin.out]; first | done | rfl, rfl⟩
    · obtain ⟨j, rfl⟩ : ∃ j, k = j + 1 := ⟨k - 1, by omega⟩
      obtain ⟨b, off, rfl, hcc⟩ := hc.cells (by rw [← HL.out]; omega)
      have c1 := hcc j (by rw [← HL.out]; omega)
      have hpi : ((j + 1 : Nat) : Int) - 1 = (j : Int) := by omega
      have hd : decide ((0 : Int) < ((j + 1 : Nat) : Int)) = true := decide_eq_true (by omega)
      clear hcc
      by_cases h0 : nth zs j = 0
      · have g0 : (nth zs j == 0) = true := by simpa using h0
        have HD := Lib.hid (topz_down zs (j + 1) (by omega) (by rw [← HL.out]; exact hk) (by simpa using h0))
        clear h0
        go_wp2_with fail
        go_round
        case rel => exact ⟨j, by omega, by go_num, by have h := HD.out; rw [Nat.add_sub_cancel] at h; rw [← h]; exact HT.out⟩
        case measure => simp [intOf]
      · have g0 : (nth zs j == 0) = false := by simpa using h0
        have HD : Hid (topz zs = j + 1) := Lib.hid (by rw [← HT.out]; exact topz_stop zs (j + 1) (by omega) (by rw [← HL.out]; exact hk) (by simpa using h0))
        clear h0
        go_wp2_with fail
        go_ret
        exact ⟨by rw [HD.out]; first | done | rfl, rfl⟩
theorem limbs_v {v : Value} {n : Nat} {W : World} (h : NumAt W v n) : Calls Try.prog 70 #[v] W fun e w' => e = .returned (.int .i64 (nl n : Nat)) ∧ W = w' := by
  obtain ⟨a, c, zs, rfl, s, u, rfl, hl⟩ := h
  have := limbs_c a c zs W s
  rwa [topz_nl u] at this

set_option maxHeartbeats 2000000 in
theorem refuses_v {v v' v'' : Value} {n n' m : Nat} {W : World} (h : NumAt W v n) (h' : NumAt W v' n') (h'' : NumAt W v'' m) :
    Calls Try.prog 65 #[v, v', v''] W fun e w' => e = .returned (.int .i64 (wrongN [n, n', m])) ∧ W = w' := by
  have l1 := limbs_v h
  have l2 := limbs_v h'
  have l3 := limbs_v h''
  rw [wrongN3]
  have b1 := nl_big n
  have b2 := nl_big n'
  have b3 := nl_big m
  obtain ⟨a'', c'', zs, rfl, s, u, hv, hl⟩ := h''
  have ht := topz_nl u
  rw [hv] at ht
  have hz : nl m = 0 ↔ m = 0 := by
    unfold nl
    constructor
    · intro h
      by_cases h0 : m = 0
      · exact h0
      · have := bl_pos h0
        omega
    · rintro rfl; rfl
  have hone : nl m = 1 → ∃ b off, a'' = some ⟨b, off, none⟩ ∧ W.cell? ⟨b, off, none⟩ = some (.int .u32 (m : Int)) ∧ m < 4294967296 := by
    intro h1
    have hp : 0 < zs.length := by have := topz_le zs; omega
    obtain ⟨b, off, rfl, hcc⟩ := s.cells hp
    refine ⟨b, off, rfl, ?_⟩
    have c0 := hcc 0 hp
    rw [Nat.add_zero] at c0
    have e1 : val zs = lb zs 0 := by
      rw [← val_norm]
      have hn : norm zs = zs.take 1 := by unfold norm; rw [ht, h1]
      rw [hn]
      have := val_take_succ zs 0 hp
      simpa [val_nil] using this
    have e2 := lb_cast u 0
    rw [← e1, hv] at e2
    rw [← e2] at c0
    have := lb_lt u 0
    rw [← e1, hv] at this
    exact ⟨c0, this⟩
  obtain ⟨x, hx⟩ : ∃ x, x = nl n := ⟨_, rfl⟩
  obtain ⟨y, hy⟩ : ∃ y, y = nl n' := ⟨_, rfl⟩
  obtain ⟨z, hzz⟩ : ∃ z, z = nl m := ⟨_, rfl⟩
  rw [← hx] at l1 b1
  rw [← hy] at l2 b2
  have hn1 : m = 1 → z = 1 := fun h => by rw [hzz, h]; rfl
  rw [← hzz] at l3 b3 hz hone
  have d1 : decide ((128 : Int) < (x : Int)) = bigB n := by rw [← b1, decide_eq_decide]; omega
  have d2 : decide ((128 : Int) < (y : Int)) = bigB n' := by rw [← b2, decide_eq_decide]; omega
  have d3 : decide ((128 : Int) < (z : Int)) = bigB m := by rw [← b3, decide_eq_decide]; omega
  obtain ⟨ml, hml⟩ : ∃ ml, ml = zs.length := ⟨_, rfl⟩
  have hml0 : z = 1 → 0 < ml := fun h => by have := topz_le zs; omega
  rw [← hml] at l3 ⊢
  clear hx hy hzz hv ht s u hml b1 b2 b3
  obtain ⟨B1, hB1⟩ : ∃ b, b = bigB n := ⟨_, rfl⟩
  obtain ⟨B2, hB2⟩ : ∃ b, b = bigB n' := ⟨_, rfl⟩
  obtain ⟨B3, hB3⟩ : ∃ b, b = bigB m := ⟨_, rfl⟩
  rw [← hB1] at d1 ⊢
  rw [← hB2] at d2 ⊢
  rw [← hB3] at d3 ⊢
  clear hB1 hB2 hB3
  cases B1
  · cases B2
    · cases B3
      · rw [if_neg (by simp)]
        by_cases z0 : m = 0
        · have e0 : z = 0 := hz.2 z0
          subst e0 z0
          clear hz hone hml0 hn1
          go_enter Try.func65, Try.ntmps65
          go_wp2_with fail
          refine l1.mono ?_; rintro e w' ⟨rfl, rfl⟩
          go_wp2_with fail
          refine l2.mono ?_; rintro e w' ⟨rfl, rfl⟩
          go_wp2_with fail
          refine l3.mono ?_; rintro e w' ⟨rfl, rfl⟩
          go_wp2_with fail
          refine l3.mono ?_; rintro e w' ⟨rfl, rfl⟩
          go_wp2_with fail
          go_ret
          exact ⟨rfl, rfl⟩
        · have e0 : z ≠ 0 := fun h => z0 (hz.1 h)
          have g0 : ((z : Int) == 0) = false := by simp; omega
          by_cases z1 : z = 1
          · subst z1
            obtain ⟨b, off, rfl, c0, hlt⟩ := hone rfl
            have hmlp := hml0 rfl
            have hmi : (0 : Int) < (ml : Int) := by omega
            clear hz hone hml0 hn1 e0
            by_cases m1 : m = 1
            · subst m1
              go_enter Try.func65, Try.ntmps65
              go_wp2_with fail
              refine l1.mono ?_; rintro e w' ⟨rfl, rfl⟩
              go_wp2_with fail
              refine l2.mono ?_; rintro e w' ⟨rfl, rfl⟩
              go_wp2_with fail
              refine l3.mono ?_; rintro e w' ⟨rfl, rfl⟩
              go_wp2_with fail
              refine l3.mono ?_; rintro e w' ⟨rfl, rfl⟩
              go_wp2_with fail
              refine l3.mono ?_; rintro e w' ⟨rfl, rfl⟩
              go_wp2_with fail
              go_ret
              exact ⟨rfl, rfl⟩
            · have g1 : ((m : Int) == 1) = false := by simp; omega
              rw [if_neg (by omega)]
              go_enter Try.func65, Try.ntmps65
              go_wp2_with fail
              refine l1.mono ?_; rintro e w' ⟨rfl, rfl⟩
              go_wp2_with fail
              refine l2.mono ?_; rintro e w' ⟨rfl, rfl⟩
              go_wp2_with fail
              refine l3.mono ?_; rintro e w' ⟨rfl, rfl⟩
              go_wp2_with fail
              refine l3.mono ?_; rintro e w' ⟨rfl, rfl⟩
              go_wp2_with fail
              refine l3.mono ?_; rintro e w' ⟨rfl, rfl⟩
              go_wp2_with fail
              go_ret
              exact ⟨rfl, rfl⟩
          · have g1 : ((z : Int) == 1) = false := by simp; omega
            rw [if_neg (by
              intro h2
              have hm1 : m = 1 := by omega
              exact z1 (hn1 hm1))]
            clear hz hone hml0 hn1 e0
            go_enter Try.func65, Try.ntmps65
            go_wp2_with fail
            refine l1.mono ?_; rintro e w' ⟨rfl, rfl⟩
            go_wp2_with fail
            refine l2.mono ?_; rintro e w' ⟨rfl, rfl⟩
            go_wp2_with fail
            refine l3.mono ?_; rintro e w' ⟨rfl, rfl⟩
            go_wp2_with fail
            refine l3.mono ?_; rintro e w' ⟨rfl, rfl⟩
            go_wp2_with fail
            refine l3.mono ?_; rintro e w' ⟨rfl, rfl⟩
            go_wp2_with fail
            go_ret
            exact ⟨rfl, rfl⟩
      · rw [if_pos (by simp)]
        clear hz hone hml0 hn1
        go_enter Try.func65, Try.ntmps65
        go_wp2_with fail
        refine l1.mono ?_; rintro e w' ⟨rfl, rfl⟩
        go_wp2_with fail
        refine l2.mono ?_; rintro e w' ⟨rfl, rfl⟩
        go_wp2_with fail
        refine l3.mono ?_; rintro e w' ⟨rfl, rfl⟩
        go_wp2_with fail
        go_ret
        exact ⟨rfl, rfl⟩
    · rw [if_pos (by simp)]
      clear hz hone hml0 hn1
      go_enter Try.func65, Try.ntmps65
      go_wp2_with fail
      refine l1.mono ?_; rintro e w' ⟨rfl, rfl⟩
      go_wp2_with fail
      refine l2.mono ?_; rintro e w' ⟨rfl, rfl⟩
      go_wp2_with fail
      go_ret
      exact ⟨rfl, rfl⟩
  · rw [if_pos (by simp)]
    clear hz hone hml0 hn1
    go_enter Try.func65, Try.ntmps65
    go_wp2_with fail
    refine l1.mono ?_; rintro e w' ⟨rfl, rfl⟩
    go_wp2_with fail
    go_ret
    exact ⟨rfl, rfl⟩
end Go.Proofs.Ytadldaidbcdaeaa
