/- package modn: size, wrong, rest, minus, Add, Sub, Mul, by their contracts. (Printed by gen_moda.py.) -/
import Derived.Test.YtadldaidbcdaeaaModN
import Derived.Test.YtadldaidbcdaeaaNatSl
set_option linter.unusedVariables false
set_option linter.unusedSimpArgs false
namespace Go.Proofs.Ytadldaidbcdaeaa
open Go.RowKit Go.Sg

/-- A number that lies in a slice. -/
structure NPart where
  a : Option Addr
  cap : Nat
  xs : List Int
def NPart.val (p : NPart) : Value := .slice p.a p.xs.length p.cap
def NPart.num (p : NPart) : Nat := Sg.val p.xs
structure NRows (w : World) (b : Nat) (ps : List NPart) : Prop where
  cell : ∀ j, (h : j < ps.length) → w.cell? ⟨b, j, none⟩ = some ps[j].val
  sl : ∀ p ∈ ps, Sl .u32 w p.a p.cap p.xs
  u : ∀ p ∈ ps, U32 p.xs
  len : ∀ p ∈ ps, p.xs.length ≤ 35184372088832
theorem nrows_new (w : World) (E : TypeId) (ps : List NPart) (cs : Array Value) (hcs : cs = (ps.map NPart.val).toArray) (hs : ∀ p ∈ ps, Sl .u32 w p.a p.cap p.xs) (hu : ∀ p ∈ ps, U32 p.xs) (hl : ∀ p ∈ ps, p.xs.length ≤ 35184372088832) :
    NRows (w.alloc (.cells cs E)) w.heap.size ps := by
  subst hcs
  refine ⟨fun j hj => ?_, fun p hp => (hs p hp).below ((Below.refl _ _).alloc (Nat.le_refl _) _), hu, hl⟩
  rw [cell_of_row (w.alloc (.cells (ps.map NPart.val).toArray E)) w.heap.size j _ E (0, 0) (Go.heap_alloc_new w _)]
  simp [hj]

set_option maxHeartbeats 1000000 in
theorem size_c (a : Option Addr) (cap : Nat) (zs : List Int) (w : World) (hc : Sl .u32 w a cap zs) (ux : U32 zs) (hl : zs.length ≤ 35184372088832) :
    Calls Try.prog 104 #[.slice a zs.length cap] w fun e w' => e = .returned (.int .i64 (((bl (val zs) + 31) / 32 : Nat) : Int)) ∧ w = w' := by
  have bc := Bits_c a cap zs w hc ux (by omega)
  have hb := (bl_le_iff (val zs) (32 * zs.length)).2 (by rw [← Rpow_two]; exact val_lt ux)
  obtain ⟨n, hn⟩ : ∃ n, n = bl (val zs) := ⟨_, rfl⟩
  rw [← hn] at bc hb ⊢
  clear hn
  go_enter Try.func104, Try.ntmps104
  go_wp2_with fail
  refine bc.mono ?_; rintro e w' ⟨rfl, rfl⟩
  go_wp2_with fail
  go_ret
  exact ⟨congrArg Ending.returned (congrArg (Value.int .i64) (by omega)), rfl⟩

set_option maxHeartbeats 1000000 in
theorem wrong_c (b cap : Nat) (ps : List NPart) (w : World) (hr : NRows w b ps) (hp : 0 < ps.length) (hm : ps.length ≤ 4611686018427387904) :
    Calls Try.prog 94 #[.slice (some ⟨b, 0, none⟩) ps.length cap] w fun e w' => e = .returned (.int .i64 (wrongN (ps.map NPart.num))) ∧ w = w' := by
  have sz : ∀ i, (h : i < ps.length) → Calls Try.prog 104 #[ps[i].val] w fun e w' => e = .returned (.int .i64 (((bl ps[i].num + 31) / 32 : Nat) : Int)) ∧ w = w' :=
    fun i h => size_c _ _ _ w (hr.sl _ (List.getElem_mem h)) (hr.u _ (List.getElem_mem h)) (hr.len _ (List.getElem_mem h))
  have bt : ∀ i, (h : i < ps.length) → Calls Try.prog 48 #[ps[i].val] w fun e w' => e = .returned (.int .i64 (bl ps[i].num)) ∧ w = w' :=
    fun i h => Bits_c _ _ _ w (hr.sl _ (List.getElem_mem h)) (hr.u _ (List.getElem_mem h)) (by have := hr.len _ (List.getElem_mem h); omega)
  have bn : ∀ i, (h : i < ps.length) → bl ps[i].num ≤ 1125899906842624 := fun i h => by
    have h1 := (bl_le_iff (Sg.val ps[i].xs) (32 * ps[i].xs.length)).2 (by rw [← Rpow_two]; exact val_lt (hr.u _ (List.getElem_mem h)))
    have := hr.len _ (List.getElem_mem h)
    unfold NPart.num
    omega
  have SZ := Lib.hid sz
  have BT := Lib.hid bt
  have BN := Lib.hid bn
  have HC := Lib.hid hr.cell
  obtain ⟨n, hn⟩ : ∃ n, n = ps.length := ⟨_, rfl⟩
  have HN := Lib.hid hn
  rw [← hn] at hp hm ⊢
  clear sz bt bn hn
  go_enter Try.func94, Try.ntmps94
  go_wp2_with fail
  go_loop [7] (fun t => ∃ i : Nat, i ≤ n ∧ t = .int .i64 (i : Int) ∧ ∀ p ∈ ps.take i, bigB p.num = false) (fun t => n - (intOf t).toNat)
  case atStart => exact ⟨0, by omega, rfl, fun p hp => by simp at hp⟩
  case round =>
    obtain ⟨i, hi, rfl, hall⟩ := hrel
    have HA := Lib.hid hall
    clear hall
    by_cases hlt : i < n
    · have hlt2 : i < ps.length := by rw [← HN.out]; exact hlt
      have c1 := HC.out i hlt2
      have s1 := SZ.out i hlt2
      have hbn := BN.out i hlt2
      obtain ⟨p, hpp⟩ : ∃ p, p = ps[i] := ⟨_, rfl⟩
      rw [← hpp] at c1 s1 hbn
      have hmem : Hid (p ∈ ps) := Lib.hid (by rw [hpp]; exact List.getElem_mem hlt2)
      have htk : Hid (ps.take (i + 1) = ps.take i ++ [p]) := Lib.hid (by rw [List.take_succ_eq_append_getElem hlt2, ← hpp])
      obtain ⟨v, hv⟩ : ∃ v, v = p.val := ⟨_, rfl⟩
      rw [← hv] at c1 s1
      obtain ⟨k, hk⟩ : ∃ k, k = bl p.num := ⟨_, rfl⟩
      rw [← hk] at s1 hbn
      have HK := Lib.hid hk
      obtain ⟨q, hq⟩ : ∃ q, q = (k + 31) / 32 := ⟨_, rfl⟩
      rw [← hq] at s1
      clear hpp hv hk hlt2
      by_cases hbig : 128 < q
      · have hd : decide ((128 : Int) < (q : Int)) = true := decide_eq_true (by omega)
        have fin : Hid (wrongN (ps.map NPart.num) = 10) := Lib.hid (by
          unfold wrongN
          rw [if_pos]
          rw [List.any_map, List.any_eq_true]
          exact ⟨p, hmem.out, decide_eq_true (by rw [← HK.out]; omega)⟩)
        clear hq
        go_wp2_with fail
        refine s1.mono ?_; rintro e w' ⟨rfl, rfl⟩
        go_wp2_with fail
        go_ret
        exact ⟨by rw [fin.out]; first | done | rfl, rfl⟩
      · have hd : decide ((128 : Int) < (q : Int)) = false := decide_eq_false (by omega)
        have hno : Hid (bigB p.num = false) := Lib.hid (decide_eq_false (by rw [← HK.out]; omega))
        clear hq
        go_wp2_with fail
        refine s1.mono ?_; rintro e w' ⟨rfl, rfl⟩
        go_wp2_with fail
        go_round
        case rel => exact ⟨i + 1, by omega, by go_num, fun x hx => by
          rw [htk.out, List.mem_append, List.mem_singleton] at hx
          rcases hx with hx | rfl
          · exact HA.out x hx
          · exact hno.out⟩
        case measure => simp [intOf]; omega
    · obtain rfl : i = n := by omega
      obtain ⟨j, rfl⟩ : ∃ j, i = j + 1 := ⟨i - 1, by omega⟩
      have hlt2 : j < ps.length := by rw [← HN.out]; omega
      have c1 := HC.out j hlt2
      have s1 := BT.out j hlt2
      obtain ⟨p, hpp⟩ : ∃ p, p = ps[j] := ⟨_, rfl⟩
      rw [← hpp] at c1 s1
      have hlast : Hid ((ps.map NPart.num).getLastD 0 = p.num) := Lib.hid (by
        rw [List.getLastD_eq_getLast?, List.getLast?_eq_getElem?, List.length_map, ← HN.out, Nat.add_sub_cancel, List.getElem?_map, List.getElem?_eq_getElem hlt2, ← hpp]; rfl)
      have hnone : Hid ((ps.map NPart.num).any bigB = false) := Lib.hid (by
        rw [List.any_map, List.any_eq_false]
        intro x hx
        have := HA.out x (by rw [List.take_of_length_le (by rw [← HN.out]; omega)]; exact hx)
        simp [this])
      obtain ⟨v, hv⟩ : ∃ v, v = p.val := ⟨_, rfl⟩
      rw [← hv] at c1 s1
      obtain ⟨k, hk⟩ : ∃ k, k = bl p.num := ⟨_, rfl⟩
      rw [← hk] at s1
      have HK := Lib.hid hk
      have hd1 : decide (((j + 1 : Nat) : Int) < ((j + 1 : Nat) : Int)) = false := by simp
      have hpi : ((j + 1 : Nat) : Int) - 1 = (j : Int) := by omega
      clear hpp hv hk hlt2 hp
      by_cases h2 : k < 2
      · have hd : decide ((k : Int) < 2) = true := decide_eq_true (by omega)
        have fin : Hid (wrongN (ps.map NPart.num) = 60) := Lib.hid (by
          unfold wrongN
          rw [hnone.out, if_neg (by simp), hlast.out, if_pos]
          have := (bl_le_iff p.num 1).1 (by rw [← HK.out]; omega)
          omega)
        go_wp2_with fail
        refine s1.mono ?_; rintro e w' ⟨rfl, rfl⟩
        go_wp2_with fail
        go_ret
        exact ⟨by rw [fin.out]; first | done | rfl, rfl⟩
      · have hd : decide ((k : Int) < 2) = false := decide_eq_false (by omega)
        have fin : Hid (wrongN (ps.map NPart.num) = 0) := Lib.hid (by
          unfold wrongN
          rw [hnone.out, if_neg (by simp), hlast.out, if_neg]
          intro h
          have := (bl_le_iff p.num 1).2 (by omega)
          rw [← HK.out] at this
          omega)
        go_wp2_with fail
        refine s1.mono ?_; rintro e w' ⟨rfl, rfl⟩
        go_wp2_with fail
        go_ret
        exact ⟨by rw [fin.out]; first | done | rfl, rfl⟩

set_option maxHeartbeats 1000000 in
theorem rest_c (a a' : Option Addr) (cap cap' : Nat) (xs ys : List Int) (w : World) (hx : Sl .u32 w a cap xs) (hy : Sl .u32 w a' cap' ys) (ux : U32 xs) (uy : U32 ys) (hl : xs.length ≤ 35184372088832) (hl' : ys.length ≤ 35184372088832) (h0 : 0 < val ys) :
    Calls Try.prog 95 #[.slice a xs.length cap, .slice a' ys.length cap'] w (NatPost (val xs % val ys) w) := by
  have dc := DivMod_c a a' cap cap' xs ys w hx hy ux uy hl hl'
  obtain ⟨r, hr⟩ : ∃ r, r = val xs % val ys := ⟨_, rfl⟩
  obtain ⟨q, hq⟩ : ∃ q, q = val xs / val ys := ⟨_, rfl⟩
  obtain ⟨n, hn⟩ : ∃ n, n = val ys := ⟨_, rfl⟩
  unfold DivPost at dc
  rw [← hr, ← hq, ← hn] at dc
  rw [← hn] at h0
  rw [← hr]
  clear hr hq hn
  have H0 := Lib.hid h0
  clear h0
  go_enter Try.func95, Try.ntmps95
  go_wp2_with fail
  refine dc.mono ?_; rintro e w1 ⟨_, h1, hb⟩
  obtain ⟨vq, vr, rfl, hq, hr, _⟩ := h1 H0.out
  clear dc h1
  go_wp2_with fail
  go_ret
  exact ⟨vr, rfl, hr, hb⟩

set_option maxHeartbeats 1000000 in
theorem minus_c (a a' a'' : Option Addr) (cap cap' cap'' : Nat) (xs ys zs : List Int) (w : World) (hx : Sl .u32 w a cap xs) (hy : Sl .u32 w a' cap' ys) (hz : Sl .u32 w a'' cap'' zs) (ux : U32 xs) (uy : U32 ys) (uz : U32 zs)
    (hl : xs.length ≤ 17592186044415) (hl' : ys.length ≤ 17592186044415) (hl'' : zs.length ≤ 17592186044415) (hb0 : val ys ≤ val zs) :
    Calls Try.prog 98 #[.slice a xs.length cap, .slice a' ys.length cap', .slice a'' zs.length cap''] w (NatPost (subM (val xs) (val ys) (val zs)) w) := by
  have sc := Sub_c a a' cap cap' xs ys w hx hy ux uy (by omega) (by omega)
  by_cases h : val ys ≤ val xs
  · have e : Hid (subM (val xs) (val ys) (val zs) = val xs - val ys) := Lib.hid (if_pos h)
    have H := Lib.hid h
    clear h hb0
    go_enter Try.func98, Try.ntmps98
    go_wp2_with fail
    refine sc.mono ?_; rintro e1 w1 hp
    obtain ⟨v, rfl, hr⟩ := hp.1 H.out
    have hb := hp.2.2
    clear sc hp
    go_wp2_with fail
    go_ret
    exact ⟨v, rfl, by rw [e.out]; exact hr, hb⟩
  · have e : Hid (subM (val xs) (val ys) (val zs) = val xs + val zs - val ys) := Lib.hid (if_neg h)
    have H := Lib.hid h
    have HB := Lib.hid hb0
    clear h hb0
    go_enter Try.func98, Try.ntmps98
    go_wp2_with fail
    refine sc.mono ?_; rintro e1 w1 hp
    obtain rfl := hp.2.1 (by have := H.out; omega)
    have hb := hp.2.2
    replace hx := hx.below hb
    replace hy := hy.below hb
    replace hz := hz.below hb
    clear sc hp
    go_wp2_with fail
    refine (Add_c _ _ _ _ _ _ _ hx hz ux uz (by omega) (by omega)).mono ?_; rintro e w2 ⟨v1, rfl, hn, hb2⟩
    obtain ⟨as_, cs, ss, rfl, hs, cans, us, hv⟩ := hn.sl
    replace hy := hy.below hb2
    have lm := (Lim.of_list ux hl).add (Lim.of_list uz hl'')
    have ls := (lm.eq hv).len cans us
    have HV := Lib.hid hv
    have hB := hb.trans (hb2.mono hb.size)
    clear hn hb hb2 lm hv
    go_wp2_with fail
    refine (Sub_c _ _ _ _ _ _ _ hs hy us uy (by omega) (by omega)).mono ?_; rintro e1 w3 hp
    obtain ⟨v, rfl, hr⟩ := hp.1 (by rw [HV.out]; have := HB.out; omega)
    have hb := hp.2.2
    have hB2 := hB.trans (hb.mono hB.size)
    rw [HV.out] at hr
    have hr2 : NatRes w.heap.size w3 v (subM (val xs) (val ys) (val zs)) := by
      rw [e.out]
      obtain ⟨z, h1, h2⟩ := hr
      exact ⟨z, h1.mono hB.size, h2⟩
    clear hp hb hB hr
    go_wp2_with fail
    go_ret
    exact ⟨v, rfl, hr2, hB2⟩

/-- An answer modulo something, or the code. -/
def ModPost (code : Int) (n : Nat) (w : World) (e : Ending) (w' : World) : Prop :=
  (code ≠ 0 → e = .returned (.tuple #[.slice none 0 0, .int .i64 code])) ∧ (code = 0 → ∃ v, e = .returned (.tuple #[v, .int .i64 0]) ∧ NatRes w.heap.size w' v n) ∧ Below w.heap.size w w'
theorem ModPost.sl {code : Int} {n : Nat} {w : World} {e : Ending} {w' : World} (h : ModPost code n w e w') :
    ∃ a c zs, e = .returned (.tuple #[.slice a zs.length c, .int .i64 code]) ∧ Sl .u32 w' a c zs ∧ Canon zs ∧ U32 zs ∧ (code = 0 → val zs = n) ∧ (code ≠ 0 → zs = []) ∧ Below w.heap.size w w' := by
  by_cases hh : code = 0
  · obtain ⟨v, rfl, hr⟩ := h.2.1 hh
    obtain ⟨a, c, zs, rfl, hs, cz, uz, hv⟩ := hr.sl
    exact ⟨a, c, zs, by rw [hh], hs, cz, uz, fun _ => hv, fun h => absurd hh h, h.2.2⟩
  · exact ⟨none, 0, [], h.1 hh, .nil _ _ _ _ (by omega), .nil, .nil (by omega), fun h => absurd h hh, fun _ => rfl, h.2.2⟩
theorem NatRes.mono {B B' : Nat} {w : World} {v : Value} {n : Nat} (h : NatRes B w v n) (hB : B' ≤ B) : NatRes B' w v n := by
  obtain ⟨z, h1, h2⟩ := h
  exact ⟨z, h1.mono hB, h2⟩


set_option maxHeartbeats 2000000 in
theorem mAdd_c (a a' a'' : Option Addr) (cap cap' cap'' : Nat) (xs ys zs : List Int) (w : World) (sx : Sl .u32 w a cap xs) (sy : Sl .u32 w a' cap' ys) (sz : Sl .u32 w a'' cap'' zs) (ux : U32 xs) (uy : U32 ys) (uz : U32 zs) (hl : xs.length ≤ 17592186044415) (hl' : ys.length ≤ 17592186044415) (hl'' : zs.length ≤ 17592186044415) :
    Calls Try.prog 72 #[.slice a xs.length cap, .slice a' ys.length cap', .slice a'' zs.length cap''] w (ModPost (wrongN [val xs, val ys, val zs]) ((val xs + val ys) % val zs) w) := by
  have nr := nrows_new w 30 [⟨a, cap, xs⟩, ⟨a', cap', ys⟩, ⟨a'', cap'', zs⟩] #[.slice a xs.length cap, .slice a' ys.length cap', .slice a'' zs.length cap''] rfl (by simp; exact ⟨sx, sy, sz⟩) (by simp; exact ⟨ux, uy, uz⟩) (by simp; omega)
  have wc := wrong_c w.heap.size 3 _ _ nr (by simp) (by simp)
  simp only [List.length_cons, List.length_nil, Nat.zero_add, Nat.reduceAdd, List.map_cons, List.map_nil, NPart.num] at wc
  have hok := fun h => wrongN_ok (ns := [val xs, val ys, val zs]) h
  simp only [List.mem_cons, List.not_mem_nil, or_false, forall_eq_or_imp, forall_eq, List.getLastD_cons, List.getLastD_nil] at hok
  obtain ⟨code, hcode⟩ : ∃ c, c = wrongN [val xs, val ys, val zs] := ⟨_, rfl⟩
  rw [← hcode] at wc hok ⊢
  have hb0 := (Below.refl w.heap.size w).alloc (Nat.le_refl _) (.cells #[.slice a xs.length cap, .slice a' ys.length cap', .slice a'' zs.length cap''] 30)
  replace sx := sx.below hb0
  replace sy := sy.below hb0
  replace sz := sz.below hb0
  clear nr hcode
  by_cases hc : code = 0
  · obtain ⟨⟨mx, my, mz⟩, h2⟩ := hok hc
    subst hc
    have H2 := Lib.hid h2
    clear hok h2
    go_enter Try.func72, Try.ntmps72
    go_wp2_with fail
    refine wc.mono ?_; rintro e w0 ⟨rfl, rfl⟩
    obtain ⟨w0, hw0⟩ : ∃ x, x = w.alloc (.cells #[.slice a xs.length cap, .slice a' ys.length cap', .slice a'' zs.length cap''] 30) := ⟨_, rfl⟩
    rw [← hw0] at hb0 sx sy sz wc ⊢
    clear wc hw0
    have hB := hb0
    clear hb0
    have hBs := hB.size
    go_wp2_with fail
    refine (Add_c _ _ _ _ _ _ _ sx sy ux uy (by omega) (by omega)).mono ?_; rintro e w1 ⟨v1, rfl, hn, hb⟩
    replace sx := sx.below hb
    replace sy := sy.below hb
    replace sz := sz.below hb
    replace hB := hB.trans (hb.mono hB.size)
    clear hb
    obtain ⟨as_, cs, zz, rfl, ss, cans, us, hv⟩ := hn.sl
    have ls := (Lim.eq (mx.add my) hv).len cans us
    have HV := Lib.hid hv
    clear hn hv
    have rc := rest_c _ _ _ _ _ _ _ ss sz us uz (by omega) (by omega) (by have := H2.out; omega)
    rw [HV.out] at rc
    have hBs := hB.size
    go_wp2_with fail
    refine (rc).mono ?_; rintro e w2 ⟨v1, rfl, hn, hb⟩
    replace sx := sx.below hb
    replace sy := sy.below hb
    replace sz := sz.below hb
    replace hB := hB.trans (hb.mono hB.size)
    clear hb
    have fin := hn.mono hBs
    clear hn rc
    go_wp2_with fail
    go_ret2
    exact ⟨fun h => absurd rfl h, fun _ => ⟨_, rfl, fin⟩, hB⟩
  · have hne : (code != 0) = true := by simpa using hc
    have HC := Lib.hid hc
    clear hok hc
    go_enter Try.func72, Try.ntmps72
    go_wp2_with fail
    refine wc.mono ?_; rintro e w0 ⟨rfl, rfl⟩
    clear wc
    go_wp2_with fail
    go_ret2
    exact ⟨fun _ => rfl, fun h => absurd h HC.out, hb0⟩

set_option maxHeartbeats 2000000 in
theorem mMul_c (a a' a'' : Option Addr) (cap cap' cap'' : Nat) (xs ys zs : List Int) (w : World) (sx : Sl .u32 w a cap xs) (sy : Sl .u32 w a' cap' ys) (sz : Sl .u32 w a'' cap'' zs) (ux : U32 xs) (uy : U32 ys) (uz : U32 zs) (hl : xs.length ≤ 17592186044415) (hl' : ys.length ≤ 17592186044415) (hl'' : zs.length ≤ 17592186044415) :
    Calls Try.prog 67 #[.slice a xs.length cap, .slice a' ys.length cap', .slice a'' zs.length cap''] w (ModPost (wrongN [val xs, val ys, val zs]) ((val xs * val ys) % val zs) w) := by
  have nr := nrows_new w 30 [⟨a, cap, xs⟩, ⟨a', cap', ys⟩, ⟨a'', cap'', zs⟩] #[.slice a xs.length cap, .slice a' ys.length cap', .slice a'' zs.length cap''] rfl (by simp; exact ⟨sx, sy, sz⟩) (by simp; exact ⟨ux, uy, uz⟩) (by simp; omega)
  have wc := wrong_c w.heap.size 3 _ _ nr (by simp) (by simp)
  simp only [List.length_cons, List.length_nil, Nat.zero_add, Nat.reduceAdd, List.map_cons, List.map_nil, NPart.num] at wc
  have hok := fun h => wrongN_ok (ns := [val xs, val ys, val zs]) h
  simp only [List.mem_cons, List.not_mem_nil, or_false, forall_eq_or_imp, forall_eq, List.getLastD_cons, List.getLastD_nil] at hok
  obtain ⟨code, hcode⟩ : ∃ c, c = wrongN [val xs, val ys, val zs] := ⟨_, rfl⟩
  rw [← hcode] at wc hok ⊢
  have hb0 := (Below.refl w.heap.size w).alloc (Nat.le_refl _) (.cells #[.slice a xs.length cap, .slice a' ys.length cap', .slice a'' zs.length cap''] 30)
  replace sx := sx.below hb0
  replace sy := sy.below hb0
  replace sz := sz.below hb0
  clear nr hcode
  by_cases hc : code = 0
  · obtain ⟨⟨mx, my, mz⟩, h2⟩ := hok hc
    subst hc
    have H2 := Lib.hid h2
    clear hok h2
    go_enter Try.func67, Try.ntmps67
    go_wp2_with fail
    refine wc.mono ?_; rintro e w0 ⟨rfl, rfl⟩
    obtain ⟨w0, hw0⟩ : ∃ x, x = w.alloc (.cells #[.slice a xs.length cap, .slice a' ys.length cap', .slice a'' zs.length cap''] 30) := ⟨_, rfl⟩
    rw [← hw0] at hb0 sx sy sz wc ⊢
    clear wc hw0
    have hB := hb0
    clear hb0
    have hBs := hB.size
    go_wp2_with fail
    refine (Mul_c _ _ _ _ _ _ _ sx sy ux uy (by omega) (by omega)).mono ?_; rintro e w1 ⟨v1, rfl, hn, hb⟩
    replace sx := sx.below hb
    replace sy := sy.below hb
    replace sz := sz.below hb
    replace hB := hB.trans (hb.mono hB.size)
    clear hb
    obtain ⟨as_, cs, zz, rfl, ss, cans, us, hv⟩ := hn.sl
    have ls := (Lim.eq (mx.mul my) hv).len cans us
    have HV := Lib.hid hv
    clear hn hv
    have rc := rest_c _ _ _ _ _ _ _ ss sz us uz (by omega) (by omega) (by have := H2.out; omega)
    rw [HV.out] at rc
    have hBs := hB.size
    go_wp2_with fail
    refine (rc).mono ?_; rintro e w2 ⟨v1, rfl, hn, hb⟩
    replace sx := sx.below hb
    replace sy := sy.below hb
    replace sz := sz.below hb
    replace hB := hB.trans (hb.mono hB.size)
    clear hb
    have fin := hn.mono hBs
    clear hn rc
    go_wp2_with fail
    go_ret2
    exact ⟨fun h => absurd rfl h, fun _ => ⟨_, rfl, fin⟩, hB⟩
  · have hne : (code != 0) = true := by simpa using hc
    have HC := Lib.hid hc
    clear hok hc
    go_enter Try.func67, Try.ntmps67
    go_wp2_with fail
    refine wc.mono ?_; rintro e w0 ⟨rfl, rfl⟩
    clear wc
    go_wp2_with fail
    go_ret2
    exact ⟨fun _ => rfl, fun h => absurd h HC.out, hb0⟩

set_option maxHeartbeats 2000000 in
theorem mSub_c (a a' a'' : Option Addr) (cap cap' cap'' : Nat) (xs ys zs : List Int) (w : World) (sx : Sl .u32 w a cap xs) (sy : Sl .u32 w a' cap' ys) (sz : Sl .u32 w a'' cap'' zs) (ux : U32 xs) (uy : U32 ys) (uz : U32 zs) (hl : xs.length ≤ 17592186044415) (hl' : ys.length ≤ 17592186044415) (hl'' : zs.length ≤ 17592186044415) :
    Calls Try.prog 73 #[.slice a xs.length cap, .slice a' ys.length cap', .slice a'' zs.length cap''] w (ModPost (wrongN [val xs, val ys, val zs]) (subM (val xs % val zs) (val ys % val zs) (val zs)) w) := by
  have nr := nrows_new w 30 [⟨a, cap, xs⟩, ⟨a', cap', ys⟩, ⟨a'', cap'', zs⟩] #[.slice a xs.length cap, .slice a' ys.length cap', .slice a'' zs.length cap''] rfl (by simp; exact ⟨sx, sy, sz⟩) (by simp; exact ⟨ux, uy, uz⟩) (by simp; omega)
  have wc := wrong_c w.heap.size 3 _ _ nr (by simp) (by simp)
  simp only [List.length_cons, List.length_nil, Nat.zero_add, Nat.reduceAdd, List.map_cons, List.map_nil, NPart.num] at wc
  have hok := fun h => wrongN_ok (ns := [val xs, val ys, val zs]) h
  simp only [List.mem_cons, List.not_mem_nil, or_false, forall_eq_or_imp, forall_eq, List.getLastD_cons, List.getLastD_nil] at hok
  obtain ⟨code, hcode⟩ : ∃ c, c = wrongN [val xs, val ys, val zs] := ⟨_, rfl⟩
  rw [← hcode] at wc hok ⊢
  have hb0 := (Below.refl w.heap.size w).alloc (Nat.le_refl _) (.cells #[.slice a xs.length cap, .slice a' ys.length cap', .slice a'' zs.length cap''] 30)
  replace sx := sx.below hb0
  replace sy := sy.below hb0
  replace sz := sz.below hb0
  clear nr hcode
  by_cases hc : code = 0
  · obtain ⟨⟨mx, my, mz⟩, h2⟩ := hok hc
    subst hc
    have H2 := Lib.hid h2
    clear hok h2
    go_enter Try.func73, Try.ntmps73
    go_wp2_with fail
    refine wc.mono ?_; rintro e w0 ⟨rfl, rfl⟩
    obtain ⟨w0, hw0⟩ : ∃ x, x = w.alloc (.cells #[.slice a xs.length cap, .slice a' ys.length cap', .slice a'' zs.length cap''] 30) := ⟨_, rfl⟩
    rw [← hw0] at hb0 sx sy sz wc ⊢
    clear wc hw0
    have hB := hb0
    clear hb0
    have h0 := H2.out
    have rx := rest_c _ _ _ _ _ _ _ sx sz ux uz (by omega) (by omega) (by omega)
    have hBs := hB.size
    go_wp2_with fail
    refine (rx).mono ?_; rintro e w1 ⟨v1, rfl, hn, hb⟩
    replace sx := sx.below hb
    replace sy := sy.below hb
    replace sz := sz.below hb
    replace hB := hB.trans (hb.mono hB.size)
    clear hb
    obtain ⟨ax, cx, zx, rfl, s1, c1, u1, hv⟩ := hn.sl
    have l1 := (Lim.eq (mx.le (Nat.mod_le _ _)) hv).len c1 u1
    have V1 := Lib.hid hv
    clear hn hv rx
    have ry := rest_c _ _ _ _ _ _ _ sy sz uy uz (by omega) (by omega) (by omega)
    have hBs := hB.size
    go_wp2_with fail
    refine (ry).mono ?_; rintro e w2 ⟨v1, rfl, hn, hb⟩
    replace sx := sx.below hb
    replace sy := sy.below hb
    replace sz := sz.below hb
    replace s1 := s1.below hb
    replace hB := hB.trans (hb.mono hB.size)
    clear hb
    obtain ⟨ay, cy, zy, rfl, s2, c2, u2, hv⟩ := hn.sl
    have l2 := (Lim.eq (my.le (Nat.mod_le _ _)) hv).len c2 u2
    have V2 := Lib.hid hv
    clear hn hv ry
    have hlt : val zy ≤ val zs := by rw [V2.out]; exact Nat.le_of_lt (Nat.mod_lt _ (by omega))
    have mc := minus_c _ _ _ _ _ _ _ _ _ _ s1 s2 sz u1 u2 uz (by omega) (by omega) (by omega) hlt
    rw [V1.out, V2.out] at mc
    clear hlt h0
    have hBs := hB.size
    go_wp2_with fail
    refine (mc).mono ?_; rintro e w3 ⟨v1, rfl, hn, hb⟩
    replace sx := sx.below hb
    replace sy := sy.below hb
    replace sz := sz.below hb
    replace s1 := s1.below hb
    replace s2 := s2.below hb
    replace hB := hB.trans (hb.mono hB.size)
    clear hb
    have fin := hn.mono hBs
    clear hn mc
    go_wp2_with fail
    go_ret2
    exact ⟨fun h => absurd rfl h, fun _ => ⟨_, rfl, fin⟩, hB⟩
  · have hne : (code != 0) = true := by simpa using hc
    have HC := Lib.hid hc
    clear hok hc
    go_enter Try.func73, Try.ntmps73
    go_wp2_with fail
    refine wc.mono ?_; rintro e w0 ⟨rfl, rfl⟩
    clear wc
    go_wp2_with fail
    go_ret2
    exact ⟨fun _ => rfl, fun h => absurd h HC.out, hb0⟩
end Go.Proofs.Ytadldaidbcdaeaa
