/- signetlaw6.one and anew by their contracts. (Printed by gen_nsf.py.) -/
import Derived.Test.YtnlmkikaaifcmaaNsE
import Derived.Test.YtnlmkikaaifcmaaSliceN
set_option linter.unusedVariables false
set_option linter.unusedSimpArgs false
namespace Go.Proofs.Ytnlmkikaaifcmaa
open Go.RowKit Go.Sg
theorem results_tmp4 {fn : Func} {t u v x : Tmp} (h : fn.results = #[.tmp t, .tmp u, .tmp v, .tmp x]) (tmps : Array Value) (P : Program) (w : World) :
    (results fn tmps).run P w = .ok (.tuple #[tmps.getD t undef, tmps.getD u undef, tmps.getD v undef, tmps.getD x undef]) w := by
  simp [results, h]
/-- What one call tells: two numbers, bytes, an int. -/
def OnePost (p1 p2 : Nat) (L : List Int) (N : Int) (w : World) (e : Ending) (w' : World) : Prop := ∃ v1 v2 v3, e = .returned (.tuple #[v1, v2, v3, .int .i64 N]) ∧ NatRes w.heap.size w' v1 p1 ∧ NatRes w.heap.size w' v2 p2 ∧ New w.heap.size .u8 5 w' v3 L ∧ Below w.heap.size w w'
set_option maxHeartbeats 8000000 in
set_option maxRecDepth 20000 in
theorem one6_c (call cut k : Nat) (xs : List Int) (u : U32 xs) (hc : cut ≤ xs.length) (hl : xs.length ≤ 1048576) (hk : k ≤ 1024) (hcall : call < 10) :
    ∃ (p1 p2 : Nat) (L : List Int) (N : Int), ∀ (w : World) (aa al ah : Option Addr) (ca cl ch : Nat) (sa : Sl .u32 w aa ca xs) (sl : Sl .u32 w al cl (xs.take cut)) (sh : Sl .u32 w ah ch (xs.drop cut)),
      Calls Try.prog 29 #[.int .i64 (call : Int), .slice aa xs.length ca, .slice al cut cl, .slice ah (xs.length - cut) ch, .int .i64 (k : Int)] w (OnePost p1 p2 L N w) := by
  have ul : U32 (xs.take cut) := u.take (by omega) cut
  have uh : U32 (xs.drop cut) := u.drop (by omega) cut
  have ll : (xs.take cut).length = cut := by rw [List.length_take]; omega
  have lh : (xs.drop cut).length = xs.length - cut := List.length_drop
  obtain ⟨X, hX⟩ : ∃ X, X = val xs := ⟨_, rfl⟩
  obtain ⟨Y, hY⟩ : ∃ X, X = val (xs.take cut) := ⟨_, rfl⟩
  obtain ⟨Z, hZ⟩ : ∃ X, X = val (xs.drop cut) := ⟨_, rfl⟩
  have NA : ∀ (w : World) (a : Option Addr) (c : Nat), Sl .u32 w a c xs → NumAt w (.slice a xs.length c) X := fun w a c s => by rw [hX]; exact .of s u (by omega)
  have NL : ∀ (w : World) (a : Option Addr) (c : Nat), Sl .u32 w a c (xs.take cut) → NumAt w (.slice a cut c) Y := fun w a c s => by rw [hY]; have := NumAt.of s ul (by omega); rwa [ll] at this
  have NH : ∀ (w : World) (a : Option Addr) (c : Nat), Sl .u32 w a c (xs.drop cut) → NumAt w (.slice a (xs.length - cut) c) Z := fun w a c s => by rw [hZ]; have := NumAt.of s uh (by omega); rwa [lh] at this
  have BA := fun (w : World) (a : Option Addr) (c : Nat) (s : Sl .u32 w a c xs) => Bytes_c a c xs w s u (by omega)
  have FA := fun (w : World) (a : Option Addr) (c : Nat) (s : Sl .u32 w a c xs) => Fixed_c a c xs (4 * (xs.length : Int) + 2) w s u (by omega) (by omega)
  have UL := fun (w : World) (a : Option Addr) (c : Nat) (s : Sl .u32 w a c (xs.take cut)) => Uint_c a c (xs.take cut) w s ul
  have CM := fun (w : World) (a a' : Option Addr) (c c' : Nat) (s : Sl .u32 w a c (xs.take cut)) (s' : Sl .u32 w a' c' (xs.drop cut)) => Cmp_c a a' c c' _ _ w s s' ul uh
  have BT := fun (w : World) (a : Option Addr) (c : Nat) (s : Sl .u32 w a c xs) => Bit_c a c xs (k : Int) w s u (by omega)
  have BB := fun (w : World) (a : Option Addr) (c : Nat) (s : Sl .u32 w a c xs) => Bits_c a c xs w s u (by omega)
  unfold NBytesPost at BA
  unfold FixedPost at FA
  unfold UintPost at UL
  unfold CmpPost at CM
  unfold BoolPost at BT
  obtain ⟨bs, hbs⟩ : ∃ u, u = beN (val xs) (blen (val xs)) := ⟨_, rfl⟩
  obtain ⟨fl, hfl⟩ : ∃ u, u = fixL (val xs) (4 * (xs.length : Int) + 2) := ⟨_, rfl⟩
  obtain ⟨ft, hft⟩ : ∃ u, u = fitB (val xs) (4 * (xs.length : Int) + 2) := ⟨_, rfl⟩
  obtain ⟨cm, hcm⟩ : ∃ u, u = cmpI (val (xs.take cut)) (val (xs.drop cut)) := ⟨_, rfl⟩
  obtain ⟨bt, hbt⟩ : ∃ u, u = bitB (val xs) (k : Int) := ⟨_, rfl⟩
  obtain ⟨bb, hbb⟩ : ∃ u, u = bl (val xs) := ⟨_, rfl⟩
  have UV : ∃ m : Nat, uintV (val (xs.take cut)) = (m : Int) ∧ m < 18446744073709551616 := by
    unfold uintV
    split
    · rename_i h
      exact ⟨_, rfl, Nat.lt_of_lt_of_le h (by decide)⟩
    · exact ⟨0, rfl, by omega⟩
  obtain ⟨m, hm, hm2⟩ := UV
  obtain ⟨ub, hub⟩ : ∃ u, u = uintB (val (xs.take cut)) := ⟨_, rfl⟩
  have FU := fun (w : World) => FromUint_c m w hm2
  unfold FromUintPost at FU
  rw [ll] at UL CM
  rw [lh] at CM
  rw [hm, ← hub] at UL
  rw [← hbs] at BA
  rw [← hfl, ← hft] at FA
  rw [← hcm] at CM
  rw [← hbt] at BT
  rw [← hbb] at BB
  obtain ⟨n, hn⟩ : ∃ n, n = xs.length := ⟨_, rfl⟩
  rw [← hn] at NA NH BA FA CM BT BB
  rw [← hn]
  have hn1 : n ≤ 1048576 := by omega
  have hk2 : k ≤ 131072 := by omega
  obtain ⟨nh, hnh⟩ : ∃ z, z = n - cut := ⟨_, rfl⟩
  rw [← hnh] at NH CM ⊢
  clear hX hY hZ hbs hfl hft hcm hbt hbb hub hm hm2 hn hl hc ll lh ul uh u hnh
  rcases (show call = 0 ∨ call = 1 ∨ call = 2 ∨ call = 3 ∨ call = 4 ∨ call = 5 ∨ call = 6 ∨ call = 7 ∨ call = 8 ∨ call = 9 by omega) with rfl | rfl | rfl | rfl | rfl | rfl | rfl | rfl | rfl | rfl
  · rw [show ((0 : Nat) : Int) = 0 from rfl]
    refine ⟨0, 0, bs, 0, fun w aa al ah ca cl ch sa sl sh => ?_⟩
    go_enter Try.func29, Try.ntmps29
    go_wp2_with fail
    refine (BA _ _ _ sa).mono ?_; rintro e_ w1 ⟨v, rfl, nv, hb⟩
    go_wp2_with fail
    (try simp only [Exit.inBlock, Exit.then]); refine bodyPost_ret (results_tmp4 rfl _ _ _) rfl ?_
    exact ⟨_, _, v, rfl, res_nil _ _, res_nil _ _, nv, hb⟩
  · rw [show ((1 : Nat) : Int) = 1 from rfl]
    cases hf : ft with
    | true =>
      rw [hf] at FA
      clear hf
      refine ⟨0, 0, fl, 1, fun w aa al ah ca cl ch sa sl sh => ?_⟩
      go_enter Try.func29, Try.ntmps29
      go_wp2_with fail
      refine (FA _ _ _ sa).mono ?_; rintro e_ w1 ⟨v, rfl, nv, hb⟩
      go_wp2_with fail
      (try simp only [Exit.inBlock, Exit.then]); refine bodyPost_ret (results_tmp4 rfl _ _ _) rfl ?_
      exact ⟨_, _, v, rfl, res_nil _ _, res_nil _ _, nv, hb⟩
    | false =>
      rw [hf] at FA
      clear hf
      refine ⟨0, 0, [], 0, fun w aa al ah ca cl ch sa sl sh => ?_⟩
      go_enter Try.func29, Try.ntmps29
      go_wp2_with fail
      refine (FA _ _ _ sa).mono ?_; rintro e_ w1 ⟨v, rfl, nv, hb⟩
      go_wp2_with fail
      (try simp only [Exit.inBlock, Exit.then]); refine bodyPost_ret (results_tmp4 rfl _ _ _) rfl ?_
      exact ⟨_, _, _, rfl, res_nil _ _, res_nil _ _, .nil _ _ _ _, hb⟩
  · rw [show ((2 : Nat) : Int) = 2 from rfl]
    cases hf : ub with
    | true =>
      rw [hf] at UL
      clear hf
      refine ⟨m, 0, [], 1, fun w aa al ah ca cl ch sa sl sh => ?_⟩
      go_enter Try.func29, Try.ntmps29
      go_wp2_with fail
      refine (UL _ _ _ sl).mono ?_; rintro e_ w_ ⟨rfl, rfl⟩
      go_wp2_with fail
      refine (FU _).mono ?_; rintro e_ w1 ⟨v, rfl, nv, hb⟩
      go_wp2_with fail
      (try simp only [Exit.inBlock, Exit.then]); refine bodyPost_ret (results_tmp4 rfl _ _ _) rfl ?_
      exact ⟨v, _, _, rfl, nv.res, res_nil _ _, .nil _ _ _ _, hb⟩
    | false =>
      rw [hf] at UL
      clear hf
      refine ⟨0, 0, [], 0, fun w aa al ah ca cl ch sa sl sh => ?_⟩
      go_enter Try.func29, Try.ntmps29
      go_wp2_with fail
      refine (UL _ _ _ sl).mono ?_; rintro e_ w_ ⟨rfl, rfl⟩
      go_wp2_with fail
      (try simp only [Exit.inBlock, Exit.then]); refine bodyPost_ret (results_tmp4 rfl _ _ _) rfl ?_
      exact ⟨_, _, _, rfl, res_nil _ _, res_nil _ _, .nil _ _ _ _, .refl _ _⟩
  · rw [show ((3 : Nat) : Int) = 3 from rfl]
    refine ⟨0, 0, [], cm, fun w aa al ah ca cl ch sa sl sh => ?_⟩
    go_enter Try.func29, Try.ntmps29
    go_wp2_with fail
    refine (CM _ _ _ _ _ sl sh).mono ?_; rintro e_ w1 ⟨rfl, hd_⟩
    go_wp2_with fail
    (try simp only [Exit.inBlock, Exit.then]); refine bodyPost_ret (results_tmp4 rfl _ _ _) rfl ?_
    exact ⟨_, _, _, rfl, res_nil _ _, res_nil _ _, .nil _ _ _ _, Dr.bl hd_⟩
  · rw [show ((4 : Nat) : Int) = 4 from rfl]
    refine ⟨Y * Z, 0, [], 0, fun w aa al ah ca cl ch sa sl sh => ?_⟩
    go_enter Try.func29, Try.ntmps29
    go_wp2_with fail
    refine (mul_v (NL _ _ _ sl) (NH _ _ _ sh)).mono ?_; rintro e_ w1 ⟨v, rfl, nv, hb⟩
    go_wp2_with fail
    (try simp only [Exit.inBlock, Exit.then]); refine bodyPost_ret (results_tmp4 rfl _ _ _) rfl ?_
    exact ⟨v, _, _, rfl, nv, res_nil _ _, .nil _ _ _ _, hb⟩
  · rw [show ((5 : Nat) : Int) = 5 from rfl]
    by_cases hz : Z = 0
    · refine ⟨0, 0, [], 60, fun w aa al ah ca cl ch sa sl sh => ?_⟩
      have dv := div_v (NA _ _ _ sa) (NH _ _ _ sh)
      go_enter Try.func29, Try.ntmps29
      go_wp2_with fail
      refine dv.mono ?_; rintro e_ w1 hp
      have he := hp.1 hz
      have hb := hp.2.2
      subst he
      clear hp dv hz
      go_wp2_with fail
      (try simp only [Exit.inBlock, Exit.then]); refine bodyPost_ret (results_tmp4 rfl _ _ _) rfl ?_
      exact ⟨_, _, _, rfl, res_nil _ _, res_nil _ _, .nil _ _ _ _, hb⟩
    · refine ⟨X / Z, X % Z, [], 0, fun w aa al ah ca cl ch sa sl sh => ?_⟩
      have dv := div_v (NA _ _ _ sa) (NH _ _ _ sh)
      go_enter Try.func29, Try.ntmps29
      go_wp2_with fail
      refine dv.mono ?_; rintro e_ w1 hp
      obtain ⟨vq, vr, rfl, hq, hr, -⟩ := hp.2.1 (by omega)
      have hb := hp.2.2
      clear hp dv hz
      go_wp2_with fail
      (try simp only [Exit.inBlock, Exit.then]); refine bodyPost_ret (results_tmp4 rfl _ _ _) rfl ?_
      exact ⟨vq, vr, _, rfl, hq, hr, .nil _ _ _ _, hb⟩
  · rw [show ((6 : Nat) : Int) = 6 from rfl]
    refine ⟨0, 0, [], (bb : Int), fun w aa al ah ca cl ch sa sl sh => ?_⟩
    go_enter Try.func29, Try.ntmps29
    go_wp2_with fail
    refine (BB _ _ _ sa).mono ?_; rintro e_ w1 ⟨rfl, rfl⟩
    go_wp2_with fail
    (try simp only [Exit.inBlock, Exit.then]); refine bodyPost_ret (results_tmp4 rfl _ _ _) rfl ?_
    exact ⟨_, _, _, rfl, res_nil _ _, res_nil _ _, .nil _ _ _ _, .refl _ _⟩
  · rw [show ((7 : Nat) : Int) = 7 from rfl]
    cases hf : bt with
    | true =>
      rw [hf] at BT
      clear hf
      refine ⟨0, 0, [], 1, fun w aa al ah ca cl ch sa sl sh => ?_⟩
      go_enter Try.func29, Try.ntmps29
      go_wp2_with fail
      refine (BT _ _ _ sa).mono ?_; rintro e_ w1 ⟨rfl, hd_⟩
      go_wp2_with fail
      (try simp only [Exit.inBlock, Exit.then]); refine bodyPost_ret (results_tmp4 rfl _ _ _) rfl ?_
      exact ⟨_, _, _, rfl, res_nil _ _, res_nil _ _, .nil _ _ _ _, Dr.bl hd_⟩
    | false =>
      rw [hf] at BT
      clear hf
      refine ⟨0, 0, [], 0, fun w aa al ah ca cl ch sa sl sh => ?_⟩
      go_enter Try.func29, Try.ntmps29
      go_wp2_with fail
      refine (BT _ _ _ sa).mono ?_; rintro e_ w1 ⟨rfl, hd_⟩
      go_wp2_with fail
      (try simp only [Exit.inBlock, Exit.then]); refine bodyPost_ret (results_tmp4 rfl _ _ _) rfl ?_
      exact ⟨_, _, _, rfl, res_nil _ _, res_nil _ _, .nil _ _ _ _, Dr.bl hd_⟩
  · rw [show ((8 : Nat) : Int) = 8 from rfl]
    refine ⟨X * 2 ^ k, 0, [], 0, fun w aa al ah ca cl ch sa sl sh => ?_⟩
    go_enter Try.func29, Try.ntmps29
    go_wp2_with fail
    refine (shl_n (NA _ _ _ sa) hk2).mono ?_; rintro e_ w1 ⟨v, rfl, nv, hb⟩
    go_wp2_with fail
    (try simp only [Exit.inBlock, Exit.then]); refine bodyPost_ret (results_tmp4 rfl _ _ _) rfl ?_
    exact ⟨v, _, _, rfl, nv, res_nil _ _, .nil _ _ _ _, hb⟩
  · rw [show ((9 : Nat) : Int) = 9 from rfl]
    refine ⟨X / 2 ^ k, 0, [], 0, fun w aa al ah ca cl ch sa sl sh => ?_⟩
    go_enter Try.func29, Try.ntmps29
    go_wp2_with fail
    refine (shr_n (NA _ _ _ sa) hk2).mono ?_; rintro e_ w1 ⟨v, rfl, nv, hb⟩
    go_wp2_with fail
    (try simp only [Exit.inBlock, Exit.then]); refine bodyPost_ret (results_tmp4 rfl _ _ _) rfl ?_
    exact ⟨v, _, _, rfl, nv, res_nil _ _, .nil _ _ _ _, hb⟩
end Go.Proofs.Ytnlmkikaaifcmaa
