/- Numbers of the call's own in a family; the calls of nat in one form; signetlaw6.sameBytes. (Printed by gen_nsa.py.) -/
import Derived.Test.YtnlmkikaaifcmaaModB
import Derived.Test.YtnlmkikaaifcmaaFamP
import Derived.Test.YtnlmkikaaifcmaaRefE
import Derived.Test.YtnlmkikaaifcmaaLawSixA
set_option linter.unusedVariables false
set_option linter.unusedSimpArgs false
namespace Go.Sg
open Go.RowKit
theorem NewV.by_blocks {B : Nat} {E : TypeId} {w w' : World} {v : Value} {vs : List Value} (h : NewV B E w v vs) (e : ∀ g, v.ownBlock = some g → w'.heap[g]? = w.heap[g]?) : NewV B E w' v vs := by
  rcases h with h | ⟨g, cap, cs, rfl, hb, hh, r⟩
  · exact .inl h
  · exact .inr ⟨g, cap, cs, rfl, hb, (e g rfl).trans hh, r⟩
theorem New.by_blocks {B : Nat} {k : IntKind} {E : TypeId} {w w' : World} {v : Value} {xs : List Int} (h : New B k E w v xs) (e : ∀ g, v.ownBlock = some g → w'.heap[g]? = w.heap[g]?) : New B k E w' v xs := by
  rcases h with h | ⟨g, cap, cs, rfl, hb, hh, r⟩
  · exact .inl h
  · exact .inr ⟨g, cap, cs, rfl, hb, (e g rfl).trans hh, r⟩
/-- What was there stays, but for n lists' blocks. -/
def FrV (V : Nat → Value) (n : Nat) (w w' : World) : Prop := w.heap.size ≤ w'.heap.size ∧ ∀ c, c < w.heap.size → (∀ j, j < n → (V j).ownBlock ≠ some c) → w'.heap[c]? = w.heap[c]?
theorem FrV.refl (V : Nat → Value) (n : Nat) (w : World) : FrV V n w w := ⟨Nat.le_refl _, fun _ _ _ => rfl⟩
theorem FrV.below {V : Nat → Value} {n : Nat} {w w' w'' : World} (h : FrV V n w w') (hb : Below w'.heap.size w' w'') : FrV V n w w'' :=
  ⟨Nat.le_trans h.1 hb.size, fun c hc hj => (hb.block c (Nat.lt_of_lt_of_le hc h.1)).trans (h.2 c hc hj)⟩
theorem FrV.drewN {V : Nat → Value} {n : Nat} {w w' : World} (h : FrV V n w w') (k : Nat) : FrV V n w (w'.drewN k) := h
theorem FrV.grown {V : Nat → Value} {n : Nat} {w w' w'' : World} {row : Option Nat} (h : FrV V n w w') (hg : w'.grownBy w'' row) (hr : ∀ g, row = some g → w.heap.size ≤ g ∨ ∃ j, j < n ∧ (V j).ownBlock = some g) : FrV V n w w'' :=
  ⟨Nat.le_trans h.1 hg.size, fun c hc hj => (hg.block c (Nat.lt_of_lt_of_le hc h.1) (fun e => by
    rcases hr c e.symm with h1 | ⟨j, h1, h2⟩
    · omega
    · exact hj j h1 h2)).trans (h.2 c hc hj)⟩
theorem FrV.row {V : Nat → Value} {n : Nat} {w w' : World} {B : Nat} {E : TypeId} {v : Value} {vs : List Value} (h : FrV V n w w') (hv : NewV B E w v vs) (ha : ∀ j, j < n → ∀ g, (V j).ownBlock = some g → some g ≠ v.ownBlock) : NewV B E w' v vs :=
  NewV.by_blocks hv fun c hc => h.2 c (hv.lt c hc).2 fun j hj e => ha j hj c e hc.symm
def modZ (n m : Nat) : Nat := if m = 0 then 0 else n % m
theorem modZ_le (n m : Nat) : modZ n m ≤ n := by unfold modZ; split; exact Nat.zero_le _; exact Nat.mod_le _ _
end Go.Sg
namespace Go.Proofs.Ytnlmkikaaifcmaa
open Go.RowKit Go.Sg
set_option maxHeartbeats 1000000 in
theorem sameBytes_c (a a' : Option Addr) (cap cap' : Nat) (xs ys : List Int) (w : World) (hx : Sl .u8 w a cap xs) (hy : Sl .u8 w a' cap' ys) :
    Calls Try.prog 25 #[.slice a xs.length cap, .slice a' ys.length cap'] w (BoolPost (decide (xs = ys)) w) := by
  have hxm := Nat.le_trans hx.le hx.max
  have hym := Nat.le_trans hy.le hy.max
  by_cases hl : xs.length = ys.length
  · obtain ⟨n, hn⟩ : ∃ n, n = ys.length := ⟨_, rfl⟩
    have HN := Lib.hid hn
    have HX := Lib.hid (show xs.length = n by omega)
    rw [hl]
    rw [← hn] at hym ⊢
    clear hl hn hxm
    have hne : ((n : Int) != n) = false := by simp
    go_enter Try.func25, Try.ntmps25
    go_wp2_with fail
    go_loopw [5] (fun t wr => ∃ i : Nat, i ≤ n ∧ t = .int .i64 (i : Int) ∧ (∀ j, j < i → nth xs j = nth ys j) ∧ Dr w wr)
      (fun t _ => n - (intOf t).toNat)
    case atStart => exact ⟨0, by omega, rfl, fun j hj => by omega, .refl _⟩
    case round =>
      obtain ⟨i, hi, rfl, hall, nd, rfl⟩ := hrel
      have HA := Lib.hid hall
      clear hall
      by_cases hlt : i < n
      · obtain ⟨b, off, rfl, hcc⟩ := hx.cells (by have := HX.out; omega)
        obtain ⟨b', off', rfl, hcc'⟩ := hy.cells (by have := HN.out; omega)
        have c1 := hcc i (by have := HX.out; omega)
        have c2 := hcc' i (by have := HN.out; omega)
        clear hcc hcc'
        by_cases he : nth xs i = nth ys i
        · have HE := Lib.hid he
          have g1 : (nth xs i != nth ys i) = false := by rw [he]; simp
          clear he
          go_wp2_with fail
          go_quiet (fail)
          go_wp2_with fail
          go_roundw
          case rel => exact ⟨i + 1, by omega, by go_num, fun j hj => by
            by_cases h : j = i
            · rw [h]; exact HE.out
            · exact HA.out j (by omega), (by repeat (first | exact Dr.refl _ | apply Dr.drewN))⟩
          case measure => simp [intOf]; omega
        · have HE := Lib.hid (show decide (xs = ys) = false from decide_eq_false fun h => he (by rw [h]))
          have g1 : (nth xs i != nth ys i) = true := by simpa using he
          clear he
          go_wp2_with fail
          go_quiet (fail)
          go_wp2_with fail
          go_ret
          exact ⟨by rw [HE.out]; rfl, (by repeat (first | exact Dr.refl _ | apply Dr.drewN))⟩
      · have HE := Lib.hid (show decide (xs = ys) = true from decide_eq_true (eq_of_nth (by rw [HX.out, HN.out]) fun j hj => HA.out j (by have := HX.out; omega)))
        go_wp2_with fail
        go_ret
        exact ⟨by rw [HE.out]; rfl, nd, rfl⟩
  · have HE := Lib.hid (show decide (xs = ys) = false from decide_eq_false fun h => hl (by rw [h]))
    have hne : ((xs.length : Int) != ys.length) = true := by simp; omega
    clear hl
    go_enter Try.func25, Try.ntmps25
    go_wp2_with fail
    go_ret
    exact ⟨by rw [HE.out]; rfl, .refl _⟩
theorem res_nil (B : Nat) (w : World) : NatRes B w (.slice none 0 0) 0 := ⟨[], .inl ⟨rfl, rfl⟩, .nil, .nil (by omega), rfl⟩
theorem num_nil (w : World) : NumAt w (.slice none 0 0) 0 := by
  obtain ⟨a, c, hv, hs⟩ := (New.nil 0 .u32 0 w).sl
  simp only [Value.slice.injEq] at hv
  obtain ⟨rfl, -, rfl⟩ := hv
  exact ⟨none, 0, [], rfl, hs, .nil (by omega), rfl, by simp⟩
section
variable {v v' : Value} {n m k : Nat} {W : World}
theorem sub_n (h : NumAt W v n) (h' : NumAt W v' m) : Calls Try.prog 20 #[v, v'] W (fun e w' => ∃ v2 ok, e = .returned (.tuple #[v2, .bool ok]) ∧ NatRes W.heap.size w' v2 (n - m) ∧ Below W.heap.size W w') :=
  (sub_v h h').mono fun e w' p => by
    by_cases hm : m ≤ n
    · obtain ⟨v2, rfl, hr⟩ := p.1 hm
      exact ⟨v2, true, rfl, hr, p.2.2⟩
    · have := p.2.1 (by omega)
      subst this
      exact ⟨_, false, rfl, by rw [show n - m = 0 by omega]; exact res_nil _ _, p.2.2⟩
theorem div_n (h : NumAt W v n) (h' : NumAt W v' m) : Calls Try.prog 15 #[v, v'] W (fun e w' => ∃ vq vr c, e = .returned (.tuple #[vq, vr, .int .i64 c]) ∧ NatRes W.heap.size w' vq (n / m) ∧ NatRes W.heap.size w' vr (modZ n m) ∧ (∀ g, vq.ownBlock = some g → vr.ownBlock ≠ some g) ∧ Below W.heap.size W w') :=
  (div_v h h').mono fun e w' p => by
    by_cases hm : m = 0
    · have := p.1 hm
      subst this
      refine ⟨_, _, 60, rfl, ?_, ?_, fun g hg => by simp [Value.ownBlock] at hg, p.2.2⟩
      · rw [hm, Nat.div_zero]; exact res_nil _ _
      · unfold modZ; rw [if_pos hm]; exact res_nil _ _
    · obtain ⟨vq, vr, rfl, h1, h2, h3⟩ := p.2.1 (by omega)
      refine ⟨vq, vr, 0, rfl, h1, ?_, h3, p.2.2⟩
      unfold modZ; rw [if_neg hm]; exact h2
theorem shl_n (h : NumAt W v n) (hk : k ≤ 131072) : Calls Try.prog 21 #[v, .int .i64 (k : Int)] W (NatPost (n * 2 ^ k) W) := by
  obtain ⟨a, c, zs, rfl, s, u, rfl, hl⟩ := h
  exact Shl_k _ _ _ _ _ s u (by omega) hk
theorem shr_n (h : NumAt W v n) (hk : k ≤ 131072) : Calls Try.prog 22 #[v, .int .i64 (k : Int)] W (NatPost (n / 2 ^ k) W) := by
  obtain ⟨a, c, zs, rfl, s, u, rfl, hl⟩ := h
  exact Shr_k _ _ _ _ _ s u (by omega) (by omega)
theorem NatRes.slc {B : Nat} {w : World} (h : NatRes B w v n) : ∃ a l c, v = .slice a l c := by
  obtain ⟨a, c, zs, e, _⟩ := h.sl
  exact ⟨a, _, c, e⟩
theorem NatRes.mono_ {B B' : Nat} {w : World} (h : NatRes B w v n) (hB : B' ≤ B) : NatRes B' w v n := by
  obtain ⟨zs, h1, h2⟩ := h
  exact ⟨zs, h1.mono hB, h2⟩
end
/-- Numbers of the call's own, each in memory of its own. -/
structure FamL (B : Nat) (w : World) (us : List Value) (ns : List Nat) : Prop where
  len : us.length = ns.length
  res : ∀ i (h : i < us.length) (h' : i < ns.length), NatRes B w us[i] ns[i]
  apart : ∀ i j (hi : i < us.length) (hj : j < us.length), i ≠ j → ∀ g, us[i].ownBlock = some g → us[j].ownBlock ≠ some g
section
variable {B : Nat} {w w' : World} {us : List Value} {ns : List Nat} {v : Value} {n : Nat}
theorem FamL.nil (B : Nat) (w : World) : FamL B w [] [] := ⟨rfl, fun i h => by simp at h, fun i j h => by simp at h⟩
theorem NatRes.lt {g : Nat} (h : NatRes B w v n) (hg : v.ownBlock = some g) : B ≤ g ∧ g < w.heap.size := by
  obtain ⟨zs, h1, _⟩ := h
  exact h1.lt g hg
theorem FamL.keep (h : FamL B w us ns) (hb : Below w.heap.size w w') : FamL B w' us ns := ⟨h.len, fun i hi hi' => (h.res i hi hi').below hb, h.apart⟩
theorem FamL.more (h : FamL B w us ns) (hv : NatRes B w v n) (ha : ∀ i (hi : i < us.length) g, us[i].ownBlock = some g → v.ownBlock ≠ some g) : FamL B w (us ++ [v]) (ns ++ [n]) := by
  have hl := h.len
  refine ⟨by simp [hl], fun i hi hi' => ?_, fun i j hi hj hne g hg => ?_⟩
  · simp only [List.length_append, List.length_singleton] at hi hi'
    by_cases e : i < us.length
    · rw [List.getElem_append_left e, List.getElem_append_left (by omega)]
      exact h.res i e (by omega)
    · obtain rfl : i = us.length := by omega
      rw [List.getElem_append_right (Nat.le_refl _), List.getElem_append_right (by omega)]
      simpa using hv
  · simp only [List.length_append, List.length_singleton] at hi hj
    by_cases e1 : i < us.length <;> by_cases e2 : j < us.length
    · rw [List.getElem_append_left e1] at hg
      rw [List.getElem_append_left e2]
      exact h.apart i j e1 e2 hne g hg
    · obtain rfl : j = us.length := by omega
      rw [List.getElem_append_left e1] at hg
      rw [List.getElem_append_right (Nat.le_refl _)]
      simpa using ha i e1 g hg
    · obtain rfl : i = us.length := by omega
      rw [List.getElem_append_right (Nat.le_refl _)] at hg
      rw [List.getElem_append_left e2]
      intro h2
      exact ha j e2 g h2 (by simpa using hg)
    · omega
/-- One more, made since. -/
theorem FamL.push (h : FamL B w us ns) (hB : B ≤ w.heap.size) (hb : Below w.heap.size w w') (hv : NatRes w.heap.size w' v n) : FamL B w' (us ++ [v]) (ns ++ [n]) :=
  (h.keep hb).more (hv.mono_ hB) fun i hi g hg h2 => by
    have h1 := ((h.res i hi (by have := h.len; omega)).lt hg).2
    have := (hv.lt h2).1
    omega
/-- Two more, made since, apart. -/
theorem FamL.push2 {v' : Value} {m : Nat} (h : FamL B w us ns) (hB : B ≤ w.heap.size) (hb : Below w.heap.size w w') (hv : NatRes w.heap.size w' v n) (hv' : NatRes w.heap.size w' v' m) (ha : ∀ g, v.ownBlock = some g → v'.ownBlock ≠ some g) : FamL B w' (us ++ [v, v']) (ns ++ [n, m]) := by
  have h1 := h.push hB hb hv
  have h2 := h1.more (hv'.mono_ hB) fun i hi g hg h3 => by
    by_cases e : i < us.length
    · rw [List.getElem_append_left e] at hg
      have h4 := ((h.res i e (by have := h.len; omega)).lt hg).2
      have := (hv'.lt h3).1
      omega
    · simp only [List.length_append, List.length_singleton] at hi
      obtain rfl : i = us.length := by omega
      rw [List.getElem_append_right (Nat.le_refl _)] at hg
      exact ha g (by simpa using hg) h3
  simpa using h2
theorem range_getD_self (us : List Value) : (List.range us.length).map (fun i => us.getD i undef) = us := by
  refine List.ext_getElem (by simp) fun i h1 h2 => ?_
  simp [h2]
theorem FamL.fam (h : FamL B w us ns) : ∃ A : Nat → List Int, FamV B .u32 25 w us.length (fun i => us.getD i undef) A ∧ ∀ i, i < us.length → Canon (A i) ∧ U32 (A i) ∧ val (A i) = ns.getD i 0 := by
  have hl := h.len
  have each : ∀ i, i < us.length → ∃ zs, New B .u32 25 w (us.getD i undef) zs ∧ Canon zs ∧ U32 zs ∧ val zs = ns.getD i 0 := fun i hi => by
    obtain ⟨zs, h1, h2, h3, h4⟩ := h.res i hi (by omega)
    exact ⟨zs, by simpa [hi] using h1, h2, h3, by simpa [show i < ns.length by omega] using h4⟩
  refine ⟨fun i => if hi : i < us.length then (each i hi).choose else [], ⟨fun i hi => ?_, fun i j hi hj hne g hg => ?_⟩, fun i hi => ?_⟩
  · simp only [hi, dif_pos]
    exact (each i hi).choose_spec.1
  · have := h.apart i j hi hj hne g (by simpa [hi] using hg)
    simpa [hj] using this
  · simp only [hi, dif_pos]
    exact (each i hi).choose_spec.2
end
theorem two_lim {k m : Nat} (h : k < 32 * m) : Lim m (2 ^ k) := lim_of_bl ((bl_le_iff _ _).2 (Nat.pow_lt_pow_right (by omega) h))
/-- All that is reckoned of two numbers. -/
def outL (x y k : Nat) : List Nat := [x + y, x + x, x - y, x - x, x * y, y * y, x / y, modZ x y, x / x, modZ x x, y / x, modZ y x, x * 2 ^ k, x / 2 ^ k, x * 2 ^ 0, y / 2 ^ 0, x + 0, x * 1, x - 0]
theorem outL_lim {x y k : Nat} (hx : Lim 4096 x) (hy : Lim 4096 y) (hk : k ≤ 1024) : ∀ i, i < 19 → Lim 8200 ((outL x y k).getD i 0) := by
  have l0 : ∀ n, n ≤ x → Lim 8200 n := fun n h => (hx.le h).mono (by omega)
  have l1 : ∀ n, n ≤ y → Lim 8200 n := fun n h => (hy.le h).mono (by omega)
  have hp : Lim 33 (2 ^ k) := two_lim (by omega)
  have e : ∀ z ∈ outL x y k, Lim 8200 z := by
    intro z hz
    simp only [outL, List.mem_cons, List.not_mem_nil, or_false] at hz
    rcases hz with rfl | rfl | rfl | rfl | rfl | rfl | rfl | rfl | rfl | rfl | rfl | rfl | rfl | rfl | rfl | rfl | rfl | rfl | rfl
    · exact (hx.add hy).mono (by omega)
    · exact (hx.add hx).mono (by omega)
    · exact l0 _ (Nat.sub_le _ _)
    · exact l0 _ (Nat.sub_le _ _)
    · exact (hx.mul hy).mono (by omega)
    · exact (hy.mul hy).mono (by omega)
    · exact l0 _ (Nat.div_le_self _ _)
    · exact l0 _ (modZ_le _ _)
    · exact l0 _ (Nat.div_le_self _ _)
    · exact l0 _ (modZ_le _ _)
    · exact l1 _ (Nat.div_le_self _ _)
    · exact l1 _ (modZ_le _ _)
    · exact (hx.mul hp).mono (by omega)
    · exact l0 _ (Nat.div_le_self _ _)
    · exact l0 _ (by rw [Nat.pow_zero, Nat.mul_one]; exact Nat.le_refl _)
    · exact l1 _ (Nat.div_le_self _ _)
    · exact l0 _ (Nat.le_refl _)
    · exact l0 _ (by rw [Nat.mul_one]; exact Nat.le_refl _)
    · first | exact l0 _ (Nat.le_refl _) | exact l0 _ (Nat.sub_le _ _)
  intro i hi
  have hl : i < (outL x y k).length := hi
  rw [List.getD_eq_getElem?_getD, List.getElem?_eq_getElem hl, Option.getD_some]
  exact e _ (List.getElem_mem _)
/-- A row of 19 numbers: these. -/
structure OutAt (B : Nat) (w : World) (g c x y k : Nat) (V : Nat → Value) (A : Nat → List Int) : Prop where
  ls : Lists B .u32 25 23 w (.slice (some ⟨g, 0, none⟩) 19 c) 19 V A
  can : ∀ j, j < 19 → Canon (A j) ∧ U32 (A j) ∧ val (A j) = (outL x y k).getD j 0
  len : ∀ j, j < 19 → (A j).length ≤ 8200
theorem OutAt.keep {B : Nat} {w w' : World} {g c x y k : Nat} {V : Nat → Value} {A : Nat → List Int} (h : OutAt B w g c x y k V A) (hb : Below w.heap.size w w') : OutAt B w' g c x y k V A := ⟨h.ls.keep hb, h.can, h.len⟩
def OutPost (x y k : Nat) (w : World) (e : Ending) (w' : World) : Prop := ∃ g V A, e = .returned (.slice (some ⟨g, 0, none⟩) 19 19) ∧ w.heap.size ≤ g ∧ OutAt w.heap.size w' g 19 x y k V A ∧ Below w.heap.size w w'
end Go.Proofs.Ytnlmkikaaifcmaa
