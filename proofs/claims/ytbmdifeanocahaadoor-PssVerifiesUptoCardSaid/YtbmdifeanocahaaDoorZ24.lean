import Derived.Test.YtbmdifeanocahaaDoorZ18
import Derived.Test.YtbmdifeanocahaaDoorZ23
import Derived.Test.YtbmdifeanocahaaDoorZ19
/- sha.Sum of parts, signetref4.Sum, signetlaw10's same, roomy, spared, by their contracts. (Printed by gen_psst.py.) -/
set_option linter.unusedVariables false
set_option linter.unusedSimpArgs false
namespace Go.Sg
open Go.RowKit
theorem rows_new (w : World) (E : TypeId) (ps : List Part) (cs : Array Value) (hcs : cs = (ps.map Part.val).toArray) (hs : ∀ p ∈ ps, Sl .u8 w p.a p.cap p.xs) (hu : ∀ p ∈ ps, U8 p.xs) :
    Rows_ (w.alloc (.cells cs E)) (some ⟨w.heap.size, 0, none⟩) ps := by
  subst hcs
  refine ⟨fun _ => ⟨_, 0, rfl, fun j hj => ?_⟩, fun p hp => (hs p hp).below ((Below.refl _ _).alloc (Nat.le_refl _) _), hu⟩
  rw [Nat.zero_add, cell_of_row (w.alloc (.cells (ps.map Part.val).toArray E)) w.heap.size j _ E (0, 0) (Go.heap_alloc_new w _)]
  simp [hj]
/-- The same memory, further on the tape. -/
def Dr (w w' : World) : Prop := ∃ n, w' = w.drewN n
theorem Dr.refl (w : World) : Dr w w := ⟨0, rfl⟩
theorem Dr.drewN {w w' : World} (h : Dr w w') (n : Nat) : Dr w (w'.drewN n) := by obtain ⟨m, rfl⟩ := h; exact ⟨m + n, by simp⟩
theorem New.head {B : Nat} {k : IntKind} {E : TypeId} {w : World} {a : Option Addr} {n cap : Nat} {xs : List Int} (h : New B k E w (.slice a n cap) xs) (m : Nat) (hm : m ≤ xs.length) (hp : 0 < xs.length) : New B k E w (.slice a m cap) (xs.take m) := by
  rcases h with ⟨hv, rfl⟩ | ⟨g, cp, cs, hv, hg, hh, h1, h2, h3, h4⟩
  · simp at hp
  · simp only [Value.slice.injEq] at hv
    obtain ⟨rfl, rfl, rfl⟩ := hv
    refine .inr ⟨g, cap, cs, ?_, hg, hh, ?_, h2, h3, ?_⟩
    · rw [List.length_take, Nat.min_eq_left hm]
    · rw [List.length_take, Nat.min_eq_left hm]; omega
    · rw [List.length_take, Nat.min_eq_left hm, List.map_take, ← h4, List.take_take, Nat.min_eq_left hm]
theorem sum64_len (s : S8 64) (bs : List Int) : (sum64 s bs).length = 64 := by unfold sum64; rw [flat64_len]; rfl
/-- The marks behind a roomy copy. -/
def m9 : List Int := List.replicate 9 165
theorem m9_len : m9.length = 9 := rfl
theorem blk_sl {w : World} {E : TypeId} {g : Nat} {xs : List Int} (h : Blk w g .u8 E (xs ++ m9)) (hl : xs.length ≤ 140737488350000) : Sl .u8 w (some ⟨g, 0, none⟩) (xs.length + 9) xs := by
  have := h.sl xs.length (xs.length + 9) (by omega) (by omega)
  rwa [List.take_left] at this
end Go.Sg
namespace Go.Proofs.YtbmdifeanocahaaDoor
open Go.RowKit Go.Sg

/-- A bool, and nothing that was there has turned. -/
def TellPost (b : Bool) (w : World) (e : Ending) (w' : World) : Prop := e = .returned (.bool b) ∧ Below w.heap.size w w'
theorem SumPost.from {h : Int} {T : List Int} {w w1 : World} (hb : Below w.heap.size w w1) {e : Ending} {w' : World} (p : SumPost h T w1 e w') : BytesPost (sha h T) w e w' := by
  obtain ⟨v, rfl, hv, hb'⟩ := p
  exact ⟨v, rfl, hv.mono hb.size, hb.trans (hb'.mono hb.size)⟩
theorem Sum1_c (h : Int) (a : Option Addr) (cap : Nat) (xs : List Int) (w : World) (hx : Sl .u8 w a cap xs) (ux : U8 xs) (hlen : xs.length < 2305843009213693952) (ht : ShaTabs w) :
    Calls Tryd.prog 14 #[.int .i64 h, .slice (some ⟨w.heap.size, 0, none⟩) 1 1] (w.alloc (.cells #[.slice a xs.length cap] 23)) (BytesPost (sha h xs) w) := by
  have hb := (Below.refl w.heap.size w).alloc (Nat.le_refl _) (.cells #[.slice a xs.length cap] 23)
  have e : flat [⟨a, cap, xs⟩] = xs := by simp [flat]
  have c := ShaSum_c h (some ⟨w.heap.size, 0, none⟩) 1 [⟨a, cap, xs⟩] _ (rows_new w 23 [⟨a, cap, xs⟩] _ rfl (by simpa using hx) (by simpa using ux)) (by simp) (by rw [e]; exact hlen) (ht.below hb)
  rw [e] at c
  exact c.mono fun e w' p => SumPost.from hb p
theorem Sum2_c (h : Int) (a a' : Option Addr) (cap cap' : Nat) (xs ys : List Int) (w : World) (hx : Sl .u8 w a cap xs) (hy : Sl .u8 w a' cap' ys) (ux : U8 xs) (uy : U8 ys) (hlen : xs.length + ys.length < 2305843009213693952) (ht : ShaTabs w) :
    Calls Tryd.prog 14 #[.int .i64 h, .slice (some ⟨w.heap.size, 0, none⟩) 2 2] (w.alloc (.cells #[.slice a xs.length cap, .slice a' ys.length cap'] 23)) (BytesPost (sha h (xs ++ ys)) w) := by
  have hb := (Below.refl w.heap.size w).alloc (Nat.le_refl _) (.cells #[.slice a xs.length cap, .slice a' ys.length cap'] 23)
  have e : flat [⟨a, cap, xs⟩, ⟨a', cap', ys⟩] = xs ++ ys := by simp [flat]
  have c := ShaSum_c h (some ⟨w.heap.size, 0, none⟩) 2 [⟨a, cap, xs⟩, ⟨a', cap', ys⟩] _ (rows_new w 23 [⟨a, cap, xs⟩, ⟨a', cap', ys⟩] _ rfl (by simp; exact ⟨hx, hy⟩) (by simp; exact ⟨ux, uy⟩)) (by simp) (by rw [e, List.length_append]; exact hlen) (ht.below hb)
  rw [e] at c
  exact c.mono fun e w' p => SumPost.from hb p

set_option maxHeartbeats 2000000 in
theorem same10_c (a a' : Option Addr) (cap cap' : Nat) (xs ys : List Int) (w : World) (hx : Sl .u8 w a cap xs) (hy : Sl .u8 w a' cap' ys) (ux : U8 xs) (uy : U8 ys) :
    Calls Tryd.prog 66 #[.slice a xs.length cap, .slice a' ys.length cap'] w (TellPost (decide (xs = ys)) w) := by
  have mx := Nat.le_trans hx.le hx.max
  have my := Nat.le_trans hy.le hy.max
  by_cases hl : xs.length = ys.length
  · obtain ⟨n, hn⟩ : ∃ n, n = xs.length := ⟨_, rfl⟩
    have HN := Lib.hid hn
    have HM : Hid (n = ys.length) := Lib.hid (by omega)
    have hne : ((n : Int) != (n : Int)) = false := by simp
    rw [← hl, ← hn]
    rw [← hn] at mx
    clear hn hl my
    go_enter Tryd.func66, Tryd.ntmps66
    go_wp2_with fail
    clear hne
    go_loopw [5] (fun t wr => ∃ i : Nat, i ≤ n ∧ t = .int .i64 (i : Int) ∧ xs.take i = ys.take i ∧ Dr w wr) (fun t _ => n - (intOf t).toNat)
    case atStart => exact ⟨0, by omega, rfl, by simp, .refl _⟩
    case round =>
      obtain ⟨i, hi, rfl, he, nd, rfl⟩ := hrel
      have HE := Lib.hid he
      clear he
      by_cases hlt : i < n
      · obtain ⟨b, off, rfl, hc⟩ := hx.cells (by have := HN.out; omega)
        obtain ⟨b', off', rfl, hc'⟩ := hy.cells (by have := HM.out; omega)
        have c0 := hc i (by have := HN.out; omega)
        have c1 := hc' i (by have := HM.out; omega)
        obtain ⟨p, hp⟩ : ∃ p, p = nth xs i := ⟨_, rfl⟩
        obtain ⟨q, hq⟩ : ∃ q, q = nth ys i := ⟨_, rfl⟩
        rw [← hp] at c0
        rw [← hq] at c1
        have hd : decide ((i : Int) < (n : Int)) = true := decide_eq_true (by omega)
        by_cases hpq : p = q
        · have he : Hid (xs.take (i + 1) = ys.take (i + 1)) := Lib.hid (by
            rw [take_succ_nth _ _ (by have := HN.out; omega), take_succ_nth _ _ (by have := HM.out; omega), HE.out, ← hp, ← hq, hpq])
          have g1 : (p != q) = false := by simp [hpq]
          clear hc hc' hp hq hpq hd
          go_wp2_with fail
          go_quiet (fail)
          go_wp2_with fail
          go_roundw
          case rel => exact ⟨i + 1, by omega, by go_num, he.out, (by repeat (first | exact Dr.refl _ | apply Dr.drewN))⟩
          case measure => simp [intOf]; omega
        · have e : Hid (decide (xs = ys) = false) := Lib.hid (decide_eq_false fun e => hpq (by rw [hp, hq, e]))
          have g1 : (p != q) = true := by simp [hpq]
          clear hc hc' hp hq hpq hd
          go_wp2_with fail
          go_quiet (fail)
          go_wp2_with fail
          go_ret
          exact ⟨by rw [e.out]; first | done | rfl, (by repeat (first | exact Below.refl _ _ | apply below_drewN))⟩
      · obtain rfl : i = n := by omega
        have e : Hid (decide (xs = ys) = true) := Lib.hid (decide_eq_true (by
          have := HE.out
          rwa [List.take_of_length_le (by have := HN.out; omega), List.take_of_length_le (by have := HM.out; omega)] at this))
        go_wp2_with fail
        go_ret
        exact ⟨by rw [e.out]; first | done | rfl, (by repeat (first | exact Below.refl _ _ | apply below_drewN))⟩
  · have hne : ((xs.length : Int) != (ys.length : Int)) = true := by simp; omega
    have e : Hid (decide (xs = ys) = false) := Lib.hid (decide_eq_false fun e => hl (by rw [e]))
    clear hl
    go_enter Tryd.func66, Tryd.ntmps66
    go_wp2_with fail
    go_ret
    exact ⟨by rw [e.out]; first | done | rfl, .refl _ _⟩
end Go.Proofs.YtbmdifeanocahaaDoor
/- pss.mask, Mask, signetref10.mask, Mask, by their contracts. -/
set_option linter.unusedVariables false
set_option linter.unusedSimpArgs false
namespace Go.Sg
open Go.RowKit
theorem bx_zero_left {x : Int} (hx : 0 ≤ x ∧ x ≤ 255) : bx 0 x = x := by
  rw [bx_eq, show BitVec.ofInt 8 0 = 0#8 from rfl, BitVec.zero_xor]
  exact ofInt8_toNat hx
theorem Blk.pre {w : World} {g : Nat} {k : IntKind} {E : TypeId} {xs : List Int} (h : Blk w g k E xs) (hm : xs.length ≤ 9223372036854775807) : Pre w g k E xs.length xs :=
  ⟨_, h, by simp, by simp, hm, List.take_of_length_le (by simp)⟩
/-- A way to hold a row of bytes at g, whole or the head of a greater one. -/
structure IsR (g : Nat) (R : World → List Int → Prop) : Prop where
  cell : ∀ {W : World} {L : List Int}, R W L → ∀ i, i < L.length → W.cell? ⟨g, i, none⟩ = some (.int .u8 (nth L i))
  free : ∀ {W : World} {L : List Int}, R W L → ∀ i, W.frozen? ⟨g, i, none⟩ = false
  set : ∀ {W : World} {L : List Int}, R W L → ∀ i x, R (W.setCell ⟨g, i, none⟩ (.int .u8 x)) (L.set i x)
  below : ∀ {W W' : World} {L : List Int}, R W L → Below W.heap.size W W' → R W' L
  alloc : ∀ {W : World} {L : List Int}, R W L → ∀ o, R (W.alloc o) L
  drew : ∀ {W : World} {L : List Int}, R W L → R W.drew L
  lt : ∀ {W : World} {L : List Int}, R W L → g < W.heap.size
theorem isR_blk (g : Nat) (E : TypeId) : IsR g (fun W L => Blk W g .u8 E L) :=
  ⟨fun h => h.cell, fun h => h.free, fun h => h.set, fun h hb => h.below hb h.lt, fun h => h.alloc, fun h => h, fun h => h.lt⟩
theorem isR_pre (g C : Nat) (E : TypeId) : IsR g (fun W L => Pre W g .u8 E C L) :=
  ⟨fun h => h.cell, fun h => h.free, fun h => h.set, fun h hb => h.below hb h.lt, fun h => h.alloc, fun h => h, fun h => h.lt⟩
/-- A mask laid over bytes; where it ends, they stay. -/
def xl : List Int → List Int → List Int
  | [], _ => []
  | y :: ys, [] => y :: ys
  | y :: ys, m :: ms => bx y m :: xl ys ms
theorem xl_nil_right (ys : List Int) : xl ys [] = ys := by cases ys <;> rfl
theorem xl_len (ys M : List Int) : (xl ys M).length = ys.length := by
  induction ys generalizing M with
  | nil => rfl
  | cons y ys ih => cases M with
    | nil => rfl
    | cons m M => simp [xl, ih]
theorem xl_in (ys M : List Int) (i : Nat) (h1 : i < ys.length) (h2 : i < M.length) : nth (xl ys M) i = bx (nth ys i) (nth M i) := by
  induction ys generalizing M i with
  | nil => simp at h1
  | cons y ys ih => cases M with
    | nil => simp at h2
    | cons m M => cases i with
      | zero => rfl
      | succ i => exact ih M i (by simpa using h1) (by simpa using h2)
theorem xl_out (ys M : List Int) (i : Nat) (h2 : M.length ≤ i) : nth (xl ys M) i = nth ys i := by
  induction ys generalizing M i with
  | nil => rfl
  | cons y ys ih => cases M with
    | nil => rfl
    | cons m M => cases i with
      | zero => simp at h2
      | succ i => exact ih M i (by simpa using h2)
theorem xl_take (ys M : List Int) (n : Nat) (hn : ys.length ≤ n) : xl ys (M.take n) = xl ys M := by
  induction ys generalizing M n with
  | nil => rfl
  | cons y ys ih => cases M with
    | nil => simp
    | cons m M => cases n with
      | zero => simp at hn
      | succ n => simp [xl, ih M n (by simpa using hn)]
theorem xl_congr (ys M M' : List Int) (h : M.take ys.length = M'.take ys.length) : xl ys M = xl ys M' := by
  rw [← xl_take ys M _ (Nat.le_refl _), h, xl_take ys M' _ (Nat.le_refl _)]
theorem xl_set (ys A M : List Int) (i j : Nat) (hA : A.length = j) (hM : i < M.length) (hy : j + i < ys.length) :
    (xl ys (A ++ M.take i)).set (j + i) (bx (nth ys (j + i)) (nth M i)) = xl ys (A ++ M.take (i + 1)) := by
  subst hA
  have l1 : (A ++ M.take i).length = A.length + i := by rw [List.length_append, List.length_take, Nat.min_eq_left (by omega)]
  have l2 : (A ++ M.take (i + 1)).length = A.length + (i + 1) := by rw [List.length_append, List.length_take, Nat.min_eq_left (by omega)]
  have e2 : A ++ M.take (i + 1) = (A ++ M.take i) ++ [nth M i] := by rw [take_succ_nth M i hM, List.append_assoc]
  refine ext_nth _ _ (by rw [List.length_set, xl_len, xl_len]) fun q hq => ?_
  rw [List.length_set, xl_len] at hq
  rw [nth_set _ _ _ _ (by rw [xl_len]; exact hy)]
  by_cases h1 : A.length + i = q
  · subst h1
    rw [if_pos rfl, xl_in _ _ _ hy (by rw [l2]; omega), e2, ← l1]
    have := nth_append_right (A ++ M.take i) [nth M i] 0
    rw [Nat.add_zero] at this
    rw [this]; rfl
  · rw [if_neg h1]
    by_cases h2 : q < A.length + i
    · rw [xl_in _ _ _ hq (by rw [l1]; exact h2), xl_in _ _ _ hq (by rw [l2]; omega), e2, nth_append_left (A ++ M.take i) _ q (by rw [l1]; exact h2)]
    · rw [xl_out _ _ _ (by rw [l1]; omega), xl_out _ _ _ (by rw [l2]; omega)]
theorem xl_cell (ys A M : List Int) (i j : Nat) (hA : A.length = j) (hM : i < M.length) : nth (xl ys (A ++ M.take i)) (j + i) = nth ys (j + i) :=
  xl_out _ _ _ (by rw [List.length_append, List.length_take, hA, Nat.min_eq_left (by omega)]; exact Nat.le_refl _)
theorem bx_u8 (x y : Int) : 0 ≤ bx x y ∧ bx x y ≤ 255 := by rw [bx_eq]; omega
theorem xl_u8 {ys M : List Int} (h : U8 ys) : U8 (xl ys M) := by
  intro i
  by_cases h1 : i < ys.length ∧ i < M.length
  · rw [xl_in _ _ _ h1.1 h1.2]; exact bx_u8 _ _
  · by_cases h2 : i < ys.length
    · rw [xl_out _ _ _ (by omega)]; exact h i
    · rw [nth_out _ _ (by rw [xl_len]; omega)]; omega
theorem xl_zero {n : Nat} {M : List Int} (hl : M.length = n) (hu : U8 M) : xl (List.replicate n 0) M = M := by
  refine ext_nth _ _ (by rw [xl_len, List.length_replicate, hl]) fun i hi => ?_
  rw [xl_len, List.length_replicate] at hi
  rw [xl_in _ _ _ (by rw [List.length_replicate]; exact hi) (by omega), nth_replicate0, bx_zero_left (hu i)]
theorem mgf_next (h : Int) (seed ys : List Int) (c k : Nat) (hk : k = min (shaSize h) (ys.length - c * shaSize h)) (hc : c * shaSize h ≤ ys.length) :
    xl ys (mgf h seed c ++ (sha h (seed ++ ctr c)).take k) = xl ys (mgf h seed (c + 1)) := by
  refine xl_congr _ _ _ ?_
  rw [mgf]
  rcases Nat.le_total (shaSize h) (ys.length - c * shaSize h) with hle | hle
  · rw [hk, Nat.min_eq_left hle, List.take_of_length_le (l := sha h (seed ++ ctr c)) (by rw [sha_len]; exact Nat.le_refl _)]
  · rw [hk, Nat.min_eq_right hle, List.take_append, List.take_append, mgf_len, List.take_take, Nat.min_self]
theorem mgf_end {h : Int} (hh : IsHash h) (seed ys : List Int) (c : Nat) (hc : ys.length ≤ c * shaSize h) : xl ys (mgf h seed c) = xl ys (maskOf h seed ys.length) := by
  refine xl_congr _ _ _ ?_
  rw [maskOf_eq hh seed c _ hc, List.take_of_length_le (by rw [maskOf_len hh]; exact Nat.le_refl _)]
end Go.Sg
namespace Go.Proofs.YtbmdifeanocahaaDoor
open Go.RowKit Go.Sg

set_option maxHeartbeats 8000000 in
set_option maxRecDepth 20000 in
theorem pmask_c (h : Int) (hh : IsHash h) (a : Option Addr) (cap : Nat) (seed ys tl : List Int) (g n K : Nat) (w : World) (hx : Sl .u8 w a cap seed) (ux : U8 seed) (hyl : ys.length = n) (R : World → List Int → Prop) (hR : IsR g R) (hk : R w (ys ++ tl)) (hn : n ≤ 65536) (hK : n ≤ K) (hl : seed.length ≤ 1048576)
    (hap : ∀ b off, a = some ⟨b, off, none⟩ → 0 < seed.length → b ≠ g) (hg : shaTop ≤ g) (ht : ShaTabs w) :
    Calls Tryd.prog 69 #[.int .i64 h, .slice a seed.length cap, .slice (some ⟨g, 0, none⟩) n K] w fun e w' => e = .returned (.tuple #[]) ∧ R w' (xl ys (maskOf h seed n) ++ tl) ∧ w.grownBy w' (some g) := by
  obtain ⟨Z, hZ⟩ : ∃ Z, Z = shaSize h := ⟨_, rfl⟩
  have z0 : 0 < Z := by rw [hZ]; exact hh.size_le.2.1
  have z64 : Z ≤ 64 := by rw [hZ]; exact shaSize_le h
  have HZ := Lib.hid hZ
  have HY := Lib.hid hyl
  have hk0 : R w (xl ys (mgf h seed 0) ++ tl) := by
    rw [mgf, xl_nil_right]; exact hk
  clear hZ hk hyl
  go_enter Tryd.func69, Tryd.ntmps69
  go_wp2_with fail
  go_loopw [2, 6] (fun o t wr => ∃ (c j : Nat) (ad : Option Addr), t = .int .u32 (c : Int) ∧ j = min (c * Z) n ∧ c ≤ n ∧ o = .slice ad (n - j) (K - j) ∧ (j < n → ad = some ⟨g, j, none⟩) ∧ R wr (xl ys (mgf h seed c) ++ tl) ∧ w.grownBy wr (some g))
    (fun o _ _ => match o with | .slice _ m _ => m | _ => 0)
  case atStart => exact ⟨0, 0, some ⟨g, 0, none⟩, rfl, by simp, by omega, rfl, fun _ => rfl, hk0, rfl, rfl, rfl, Nat.le_refl _, fun _ _ _ => rfl⟩
  case round =>
    clear hk0
    obtain ⟨c, j, ad, rfl, hj, hc, rfl, had, hkb, hgr⟩ := hrel
    obtain ⟨m, hm⟩ : ∃ m, m = n - j := ⟨_, rfl⟩
    obtain ⟨Kj, hKj⟩ : ∃ m, m = K - j := ⟨_, rfl⟩
    rw [← hm, ← hKj]
    have jn : j ≤ n := by omega
    have HM := Lib.hid hm
    have HJ := Lib.hid hj
    have mb : m ≤ 65536 := by omega
    have mK : m ≤ Kj := by omega
    have HKJ := Lib.hid hKj
    clear hm hj hKj
    by_cases hlt : j < n
    · obtain rfl := had hlt
      have mp : 0 < m := by have := HM.out; omega
      have mp' : (0 : Int) < (m : Int) := by omega
      have jc : Hid (j = c * Z) := Lib.hid (by have := HJ.out; omega)
      have hcn : c < n := by
        have h1 := jc.out
        have h2 : c ≤ c * Z := Nat.le_mul_of_pos_right c z0
        omega
      have hxr := hx.grown' hgr (fun b off ha hp e => hap b off ha hp (Option.some.inj e))
      have htr := ht.grown hgr hg
      obtain ⟨x0, hx0⟩ : ∃ x, x = c / 16777216 % 256 := ⟨_, rfl⟩
      obtain ⟨x1, hx1⟩ : ∃ x, x = c / 65536 % 256 := ⟨_, rfl⟩
      obtain ⟨x2, hx2⟩ : ∃ x, x = c / 256 % 256 := ⟨_, rfl⟩
      obtain ⟨x3, hx3⟩ : ∃ x, x = c % 256 := ⟨_, rfl⟩
      have a0 : IntKind.u8.wrap ((c : Int) / 16777216) = (x0 : Int) := by rw [IntKind.wrap_u8', hx0]; omega
      have a1 : IntKind.u8.wrap ((c : Int) / 65536) = (x1 : Int) := by rw [IntKind.wrap_u8', hx1]; omega
      have a2 : IntKind.u8.wrap ((c : Int) / 256) = (x2 : Int) := by rw [IntKind.wrap_u8', hx2]; omega
      have a3 : IntKind.u8.wrap (c : Int) = (x3 : Int) := by rw [IntKind.wrap_u8', hx3]; omega
      have b0 : (c : Int) / 16777216 % 256 = (x0 : Int) := by rw [hx0]; omega
      have b1 : (c : Int) / 65536 % 256 = (x1 : Int) := by rw [hx1]; omega
      have b2 : (c : Int) / 256 % 256 = (x2 : Int) := by rw [hx2]; omega
      have b3 : (c : Int) % 256 = (x3 : Int) := by rw [hx3]; omega
      have ec : ctr c = [(x0 : Int), (x1 : Int), (x2 : Int), (x3 : Int)] := by rw [hx0, hx1, hx2, hx3]; rfl
      have kb : Sl .u8 (wr.alloc (.cells #[.int .u8 (x0 : Int), .int .u8 (x1 : Int), .int .u8 (x2 : Int), .int .u8 (x3 : Int)] 5)) (some ⟨wr.heap.size, 0, none⟩) 4 (ctr c) := by
        rw [ec]; exact ⟨Nat.le_refl _, by simp, (cells_new .u8 wr 5 [(x0 : Int), (x1 : Int), (x2 : Int), (x3 : Int)] _ rfl _ rfl).cells⟩
      have al := (Below.refl wr.heap.size wr).alloc (Nat.le_refl _) (.cells #[.int .u8 (x0 : Int), .int .u8 (x1 : Int), .int .u8 (x2 : Int), .int .u8 (x3 : Int)] 5)
      have cs := Sum2_c h a (some ⟨wr.heap.size, 0, none⟩) cap 4 seed (ctr c) _ (hxr.below al) kb ux (ctr_u8 c) (by rw [ec]; simp; omega) (htr.below al)
      have es : (wr.alloc (.cells #[.int .u8 (x0 : Int), .int .u8 (x1 : Int), .int .u8 (x2 : Int), .int .u8 (x3 : Int)] 5)).heap.size = wr.heap.size + 1 := by simp
      have el : (ctr c).length = 4 := rfl
      rw [es, el] at cs
      have hk2 := hR.alloc hkb (.cells #[.int .u8 (x0 : Int), .int .u8 (x1 : Int), .int .u8 (x2 : Int), .int .u8 (x3 : Int)] 5)
      have hg2 := only_alloc hgr (.cells #[.int .u8 (x0 : Int), .int .u8 (x1 : Int), .int .u8 (x2 : Int), .int .u8 (x3 : Int)] 5)
      have hgl := hR.lt hkb
      clear hx0 hx1 hx2 hx3 ec kb el had hkb hgr al hxr htr
      go_wp2_with fail
      refine cs.mono ?_; rintro e w2 ⟨vM, rfl, nM, hbM⟩
      obtain ⟨aM, cM, rfl, sM⟩ := nM.sl
      have apM : ∀ b off, aM = some ⟨b, off, none⟩ → 0 < (sha h (seed ++ ctr c)).length → b ≠ g := fun b off hb _ e => by
        have := nM.far b off hb
        rw [es] at this
        omega
      obtain ⟨zM, hzM⟩ : ∃ z, z = sha h (seed ++ ctr c) := ⟨_, rfl⟩
      rw [← hzM] at sM apM ⊢
      have uM : U8 zM := by rw [hzM]; exact sha_u8 _ _
      have lM : Hid (zM.length = Z) := Lib.hid (by rw [hzM, sha_len, HZ.out])
      have eM := Lib.hid hzM
      rw [lM.out]
      have hk3 := hR.below hk2 hbM
      have hg3 := only_below hg2 hbM
      obtain ⟨k, hkk⟩ : ∃ k, k = min Z m := ⟨_, rfl⟩
      have k1 : k ≤ Z := by omega
      have k2 : k ≤ m := by omega
      have kp : 0 < k := by omega
      have rowE : Hid (xl ys (mgf h seed c ++ zM.take k) = xl ys (mgf h seed (c + 1))) := Lib.hid (by
        rw [eM.out]
        exact mgf_next h seed ys c k (by rw [hkk, HM.out, jc.out, HZ.out, HY.out]) (by have := jc.out; have := HZ.out; have := HY.out; subst this; subst Z; omega))
      have mg : Hid ((mgf h seed c).length = j) := Lib.hid (by rw [mgf_len, jc.out, HZ.out])
      have hk4 : R w2 (xl ys (mgf h seed c ++ zM.take 0) ++ tl) := by simpa using hk3
      have KK := Lib.hid hkk
      have mi : min (Z : Int) (m : Int) = (k : Int) := by rw [hkk]; omega
      have mi2 : (if (m : Int) < (Z : Int) then (m : Int) else (Z : Int)) = (k : Int) := by rw [hkk]; split <;> omega
      have mi4 : (if m < Z then (m : Int) else (Z : Int)) = (k : Int) := by rw [hkk]; split <;> omega
      have mi3 : (if (Z : Int) ≤ (m : Int) then (Z : Int) else (m : Int)) = (k : Int) := by rw [hkk]; split <;> omega
      clear nM hzM hk2 hg2 hk3 hbM cs hkk
      go_wp2_with fail
      go_loopw [35] (fun t wr => ∃ i : Nat, i ≤ k ∧ t = .int .i64 (i : Int) ∧ R wr (xl ys (mgf h seed c ++ zM.take i) ++ tl) ∧ Sl .u8 wr aM cM zM ∧ w.grownBy wr (some g)) (fun t _ => k - (intOf t).toNat)
      case atStart => exact ⟨0, by omega, rfl, hk4, sM, hg3⟩
      case round =>
        clear hk4 sM hg3
        obtain ⟨i, hi, rfl, hkb, sM, hgr⟩ := hrel
        by_cases hlk : i < k
        · have ll : (xl ys (mgf h seed c ++ zM.take i)).length = n := by rw [xl_len, HY.out]
          have c0 := hR.cell hkb (j + i) (by rw [List.length_append, ll]; have := HM.out; omega)
          rw [nth_append_left _ _ _ (by rw [ll]; have := HM.out; omega), xl_cell ys (mgf h seed c) zM i j mg.out (by rw [lM.out]; omega)] at c0
          have f0 := hR.free hkb (j + i)
          obtain ⟨b, off, eaa, hcc⟩ := sM.cells (by rw [lM.out]; omega)
          subst eaa
          have c1 := hcc i (by rw [lM.out]; omega)
          obtain ⟨x, hx⟩ : ∃ x, x = nth zM i := ⟨_, rfl⟩
          obtain ⟨y, hy⟩ : ∃ y, y = nth ys (j + i) := ⟨_, rfl⟩
          obtain ⟨z, hz⟩ : ∃ z, z = bx y x := ⟨_, rfl⟩
          have hs := hR.set hkb (j + i) (bx (nth ys (j + i)) (nth zM i))
          rw [List.set_append_left _ _ (by rw [ll]; have := HM.out; omega), xl_set ys (mgf h seed c) zM i j mg.out (by rw [lM.out]; omega) (by rw [HY.out]; have := HM.out; omega), ← hx, ← hy, ← hz] at hs
          have sM2 := (sM.grown' (grownBy_set wr ⟨g, j + i, none⟩ (.int .u8 z)) (fun b' off' ha hp e => apM b' off' ha hp (Option.some.inj e))).drewN 1
          have hg2 := only_drew (only_setCell (p := ⟨g, j + i, none⟩) hgr (.inl rfl) (.int .u8 z))
          rw [← hx] at c1
          rw [← hy] at c0
          have hxo : bits .xor .u8 y x = z := hz.symm
          have hin : (i : Int) < (m : Int) := by omega
          have hinz : (i : Int) < (Z : Int) := by omega
          have hinz' : i < Z := by omega
          have him : i < m := by omega
          have hik : (i : Int) < (k : Int) := by omega
          have hd1 : decide ((i : Int) < (k : Int)) = true := decide_eq_true hik
          have hs2 : R (wr.setCell ⟨g, j + i, none⟩ (.int .u8 z)).drew (xl ys (mgf h seed c ++ zM.take (i + 1)) ++ tl) := hR.drew hs
          clear hcc hx hy hz hkb sM hgr ll hs
          go_wp2_with fail
          go_still_tail 10, (by kernel_rfl)
          change wpList _ _ _ _ _ wr.drew
          go_wp2_with fail
          go_roundw
          case rel => exact ⟨i + 1, by omega, by go_num, hs2, sM2, hg2⟩
          case measure => simp [intOf]; omega
        · obtain rfl : k = i := by omega
          have hik : ¬ (k : Int) < (k : Int) := by omega
          have hd1 : decide ((k : Int) < (k : Int)) = false := by simp
          rw [rowE.out] at hkb
          have hcut := fun W => cut_l (P := Tryd.prog) W 23 5 Tryd.underlying23 size8 (some ⟨g, j, none⟩) m Kj k k2 (k : Int) rfl
          obtain ⟨a2, ha2⟩ : ∃ x, x = (if Kj = k then (some ⟨g, j, none⟩ : Option Addr) else (some ⟨g, j, none⟩ : Option Addr).map (·.add k)) := ⟨_, rfl⟩
          obtain ⟨m2, hm2⟩ : ∃ x, x = m - k := ⟨_, rfl⟩
          obtain ⟨K2, hK2⟩ : ∃ x, x = Kj - k := ⟨_, rfl⟩
          rw [← ha2, ← hm2, ← hK2] at hcut
          have had2 : j + k < n → a2 = some ⟨g, j + k, none⟩ := fun hjk => by
            rw [ha2, if_neg (by have := HM.out; omega), Option.map_some, Addr.add_mid]
          have HM2 := Lib.hid hm2
          have hj2 : Hid (j + k = min ((c + 1) * Z) n) := Lib.hid (by
            have h1 := jc.out
            have h2 := KK.out
            have h3 := HM.out
            rw [Nat.succ_mul]; omega)
          have hc1 : Hid (n - (j + k) = m2) := Lib.hid (by have := HM2.out; have := HM.out; omega)
          have hc2 : Hid (K - (j + k) = K2) := Lib.hid (by have := HKJ.out; omega)
          have hcb : (c : Int) + 1 ≤ 65536 := by omega
          clear ha2 hm2 hK2
          go_wp2_with fail
          go_roundw
          case rel => exact ⟨c + 1, j + k, a2, by go_num, hj2.out, by omega, by rw [hc1.out, hc2.out], had2, hkb, hgr⟩
          case measure => have := HM2.out; simp; omega
    · have jn2 : j = n := by omega
      have mz : m = 0 := by have := HM.out; omega
      subst mz
      have hfin : R wr (xl ys (maskOf h seed n) ++ tl) := by
        have e := mgf_end hh seed ys c (by rw [HY.out]; have := HJ.out; have := HZ.out; subst this; omega)
        rw [HY.out] at e
        rw [← e]; exact hkb
      clear had
      go_wp2_with fail
      go_end0
      exact ⟨rfl, hfin, hgr⟩
end Go.Proofs.YtbmdifeanocahaaDoor
/- An encoding, and how it is undone, in plain words. No program in sight. -/
set_option linter.unusedVariables false
set_option linter.unusedSimpArgs false
namespace Go.Sg
open Go.RowKit
/-- The bits that the first byte may have. -/
def topB (b : Nat) : Int := ((255 / 2 ^ ((8 - b % 8) % 8) : Nat) : Int)
theorem topB_u8 (b : Nat) : 0 ≤ topB b ∧ topB b ≤ 255 := by
  unfold topB
  exact ⟨Int.natCast_nonneg _, Int.ofNat_le.2 (Nat.div_le_self 255 (2 ^ ((8 - b % 8) % 8)))⟩
theorem topB_odd (b : Nat) : bits .and .u8 1 (topB b) = 1 := by
  unfold topB
  have h : (8 - b % 8) % 8 < 8 := Nat.mod_lt _ (by omega)
  obtain ⟨k, hk⟩ : ∃ k, k = (8 - b % 8) % 8 := ⟨_, rfl⟩
  rw [← hk] at h ⊢
  match k, h with
  | 0, _ => decide
  | 1, _ => decide
  | 2, _ => decide
  | 3, _ => decide
  | 4, _ => decide
  | 5, _ => decide
  | 6, _ => decide
  | 7, _ => decide
theorem and_eq (x y : Int) : bits .and .u8 x y = ((BitVec.ofInt 8 x &&& BitVec.ofInt 8 y).toNat : Int) := by
  show IntKind.u8.wrap ((BitVec.ofInt 8 x &&& BitVec.ofInt 8 y).toNat : Nat) = _
  rw [IntKind.wrap_u8']
  have := (BitVec.ofInt 8 x &&& BitVec.ofInt 8 y).isLt
  omega
theorem andNot_eq (x y : Int) : bits .andNot .u8 x y = ((BitVec.ofInt 8 x &&& ~~~ BitVec.ofInt 8 y).toNat : Int) := by
  show IntKind.u8.wrap ((BitVec.ofInt 8 x &&& ~~~ BitVec.ofInt 8 y).toNat : Nat) = _
  rw [IntKind.wrap_u8']
  have := (BitVec.ofInt 8 x &&& ~~~ BitVec.ofInt 8 y).isLt
  omega
theorem and_u8 (x y : Int) : 0 ≤ bits .and .u8 x y ∧ bits .and .u8 x y ≤ 255 := by
  rw [and_eq]
  have := (BitVec.ofInt 8 x &&& BitVec.ofInt 8 y).isLt
  omega
theorem ofInt_back {x : Int} (h : 0 ≤ x ∧ x ≤ 255) : ((BitVec.ofInt 8 x).toNat : Int) = x := ofInt8_toNat h
theorem ofInt_nat (v : BitVec 8) : BitVec.ofInt 8 (v.toNat : Int) = v := by
  apply BitVec.eq_of_toNat_eq
  rw [BitVec.toNat_ofInt]
  have := v.isLt
  omega
theorem nat_inj {u v : BitVec 8} (h : (u.toNat : Int) = (v.toNat : Int)) : u = v := BitVec.eq_of_toNat_eq (by omega)
theorem byte_law (X D M T : BitVec 8) : X = (D ^^^ M) &&& T ↔ X &&& ~~~ T = 0#8 ∧ (X ^^^ M) &&& T = D &&& T := by
  constructor
  · rintro rfl
    constructor
    · ext i hi; simp
    · ext i hi
      simp
      cases D[i] <;> cases M[i] <;> cases T[i] <;> rfl
  · rintro ⟨h1, h2⟩
    ext i hi
    have e1 := congrArg (fun v : BitVec 8 => v.getLsbD i) h1
    have e2 := congrArg (fun v : BitVec 8 => v.getLsbD i) h2
    simp [hi] at e1 e2 ⊢
    revert e1 e2
    cases X[i] <;> cases D[i] <;> cases M[i] <;> cases T[i] <;> simp
theorem byte_ints {x d m t : Int} (hx : 0 ≤ x ∧ x ≤ 255) : x = bits .and .u8 (bx d m) t ↔ bits .andNot .u8 x t = 0 ∧ bits .and .u8 (bx x m) t = bits .and .u8 d t := by
  rw [bx_eq, bx_eq, and_eq, and_eq, and_eq, andNot_eq, ofInt_nat, ofInt_nat]
  have key := byte_law (.ofInt 8 x) (.ofInt 8 d) (.ofInt 8 m) (.ofInt 8 t)
  constructor
  · intro h
    have := key.1 (nat_inj (by rw [ofInt_back hx]; exact h))
    rw [this.1, this.2]
    exact ⟨rfl, rfl⟩
  · rintro ⟨h1, h2⟩
    have := key.2 ⟨nat_inj (by rw [h1]; rfl), nat_inj h2⟩
    rw [← this]
    exact (ofInt_back hx).symm
theorem bx_back {x m d : Int} (hx : 0 ≤ x ∧ x ≤ 255) (hd : 0 ≤ d ∧ d ≤ 255) : x = bx d m ↔ bx x m = d := by
  rw [bx_eq, bx_eq]
  constructor
  · intro h
    have e : BitVec.ofInt 8 x = BitVec.ofInt 8 d ^^^ BitVec.ofInt 8 m := by rw [h, ofInt_nat]
    rw [e, BitVec.xor_assoc, BitVec.xor_self, BitVec.xor_zero]
    exact ofInt_back hd
  · intro h
    have e : BitVec.ofInt 8 d = BitVec.ofInt 8 x ^^^ BitVec.ofInt 8 m := by rw [← h, ofInt_nat]
    rw [e, BitVec.xor_assoc, BitVec.xor_self, BitVec.xor_zero]
    exact (ofInt_back hx).symm

/-! ### the encoding -/
def encLen (b : Nat) : Nat := (b + 7) / 8
def z8 : List Int := List.replicate 8 0
def encSum (h : Int) (digest salt : List Int) : List Int := sha h (z8 ++ digest ++ salt)
def encDb (n : Nat) (salt : List Int) : List Int := List.replicate (n - salt.length - 1) 0 ++ 1 :: salt
def topped (t : Int) (xs : List Int) : List Int := xs.set 0 (bits .and .u8 (nth xs 0) t)
def encBlk (h : Int) (digest salt : List Int) (b n : Nat) : List Int := topped (topB b) (xl (encDb n salt) (maskOf h (encSum h digest salt) n))
def encOf (h : Int) (digest salt : List Int) (b : Nat) : List Int := encBlk h digest salt b (encLen b - shaSize h - 1) ++ (encSum h digest salt ++ [188])
/-- A right digest, and room for the salt. -/
def encFits (h : Int) (digest salt : List Int) (b : Nat) : Prop := digest.length = shaSize h ∧ shaSize h + salt.length + 2 ≤ encLen b
instance (h : Int) (digest salt : List Int) (b : Nat) : Decidable (encFits h digest salt b) := inferInstanceAs (Decidable (_ ∧ _))
def ecode (h : Int) (digest salt : List Int) (n : Int) : Int := if IsHash h then (if 0 ≤ n ∧ n ≤ 65536 then (if encFits h digest salt n.toNat then 0 else 90) else 10) else 111
def eres (h : Int) (digest salt : List Int) (n : Int) : List Int := if IsHash h ∧ (0 ≤ n ∧ n ≤ 65536) ∧ encFits h digest salt n.toNat then encOf h digest salt n.toNat else []
theorem z8_u8 : U8 z8 := InR.zeros (by omega) _
theorem encSum_u8 (h : Int) (digest salt : List Int) : U8 (encSum h digest salt) := sha_u8 _ _
theorem encSum_len (h : Int) (digest salt : List Int) : (encSum h digest salt).length = shaSize h := sha_len _ _
theorem encDb_len {n : Nat} {salt : List Int} (h : salt.length + 1 ≤ n) : (encDb n salt).length = n := by
  unfold encDb
  rw [List.length_append, List.length_replicate, List.length_cons]; omega
theorem encDb_u8 {n : Nat} {salt : List Int} (h : U8 salt) : U8 (encDb n salt) := (InR.zeros (by omega) _).append (by omega) (InR.append (xs := [1]) (by omega) (.of_mem (by omega) (by simp)) h)
theorem topped_len (t : Int) (xs : List Int) : (topped t xs).length = xs.length := List.length_set
theorem topped_u8 {t : Int} {xs : List Int} (h : U8 xs) : U8 (topped t xs) := InR.set h 0 (and_u8 _ _).1 (and_u8 _ _).2
theorem encBlk_len {h : Int} {digest salt : List Int} {b n : Nat} (hs : salt.length + 1 ≤ n) : (encBlk h digest salt b n).length = n := by
  unfold encBlk; rw [topped_len, xl_len, encDb_len hs]
theorem encBlk_u8 {h : Int} {digest salt : List Int} {b n : Nat} (u : U8 salt) : U8 (encBlk h digest salt b n) := topped_u8 (xl_u8 (encDb_u8 u))
theorem encOf_len {h : Int} {digest salt : List Int} {b : Nat} (hf : encFits h digest salt b) : (encOf h digest salt b).length = encLen b := by
  have h2 := hf.2
  unfold encOf
  rw [List.length_append, encBlk_len (by omega), List.length_append, encSum_len]
  simp; omega
theorem encOf_u8 {h : Int} {digest salt : List Int} {b : Nat} (u : U8 salt) : U8 (encOf h digest salt b) :=
  (encBlk_u8 u).append (by omega) ((encSum_u8 _ _ _).append (by omega) (.of_mem (by omega) (by simp)))
theorem eres_u8 {h : Int} {digest salt : List Int} {n : Int} (u : U8 salt) : U8 (eres h digest salt n) := by
  unfold eres
  split
  · exact encOf_u8 u
  · exact .nil (by omega)

/-! ### how it is undone -/
/-- What unmasking gives. -/
def undone (h : Int) (em : List Int) (n : Nat) : List Int := xl (em.take n) (maskOf h ((em.drop n).take (shaSize h)) n)
def saltOf (h : Int) (em : List Int) (n : Nat) : List Int := (undone h em n).drop (n - shaSize h)
def holdsAt (h : Int) (digest em : List Int) (b n : Nat) : Prop := em = encBlk h digest (saltOf h em n) b n ++ (encSum h digest (saltOf h em n) ++ [188])
instance (h : Int) (digest em : List Int) (b n : Nat) : Decidable (holdsAt h digest em b n) := inferInstanceAs (Decidable (_ = _))
def holdsOf (h : Int) (digest em : List Int) (bits : Int) : Prop :=
  IsHash h ∧ (0 ≤ bits ∧ bits ≤ 65536) ∧ digest.length = shaSize h ∧ em.length = encLen bits.toNat ∧ 2 * shaSize h + 2 ≤ encLen bits.toNat ∧ holdsAt h digest em bits.toNat (encLen bits.toNat - shaSize h - 1)
instance (h : Int) (digest em : List Int) (bits : Int) : Decidable (holdsOf h digest em bits) := inferInstanceAs (Decidable (_ ∧ _))
theorem topped_nth0 (t : Int) (xs : List Int) (h : 0 < xs.length) : nth (topped t xs) 0 = bits .and .u8 (nth xs 0) t := by
  unfold topped; rw [nth_set _ _ _ _ h, if_pos rfl]
theorem topped_nth (t : Int) (xs : List Int) (i : Nat) (h : 0 < i) : nth (topped t xs) i = nth xs i := by
  unfold topped
  by_cases h0 : 0 < xs.length
  · rw [nth_set _ _ _ _ h0, if_neg (by omega)]
  · have : xs = [] := List.eq_nil_of_length_eq_zero (by omega)
    subst this; rfl
/-- Masked bytes are these just if the first has no strange bit and what is unmasked is what was masked. -/
theorem masked_iff (t : Int) (X M D : List Int) (hM : M.length = X.length) (hD : D.length = X.length) (h0 : 0 < X.length) (uX : U8 X) (uD : U8 D) :
    X = topped t (xl D M) ↔ bits .andNot .u8 (nth X 0) t = 0 ∧ topped t (xl X M) = topped t D := by
  have lX : (xl X M).length = X.length := xl_len _ _
  have lD : (xl D M).length = X.length := by rw [xl_len, hD]
  constructor
  · intro h
    have b0 : nth X 0 = bits .and .u8 (bx (nth D 0) (nth M 0)) t := by
      have this : nth X 0 = nth (topped t (xl D M)) 0 := congrArg (nth · 0) h
      rw [topped_nth0 _ _ (by omega), xl_in _ _ _ (by omega) (by omega)] at this
      exact this
    have b1 := (byte_ints (uX 0)).1 b0
    refine ⟨b1.1, ext_nth _ _ (by rw [topped_len, topped_len]; omega) fun i hi => ?_⟩
    rw [topped_len] at hi
    rcases Nat.eq_zero_or_pos i with rfl | hp
    · rw [topped_nth0 _ _ (by omega), topped_nth0 _ _ (by omega), xl_in _ _ _ (by omega) (by omega)]; exact b1.2
    · rw [topped_nth _ _ _ hp, topped_nth _ _ _ hp, xl_in _ _ _ (by omega) (by omega)]
      have this : nth X i = nth (topped t (xl D M)) i := congrArg (nth · i) h
      rw [topped_nth _ _ _ hp, xl_in _ _ _ (by omega) (by omega)] at this
      exact (bx_back (uX i) (uD i)).1 this
  · rintro ⟨h1, h2⟩
    refine ext_nth _ _ (by rw [topped_len]; omega) fun i hi => ?_
    have e : nth (topped t (xl X M)) i = nth (topped t D) i := congrArg (nth · i) h2
    rcases Nat.eq_zero_or_pos i with rfl | hp
    · rw [topped_nth0 _ _ (by omega), topped_nth0 _ _ (by omega), xl_in _ _ _ (by omega) (by omega)] at e
      rw [topped_nth0 _ _ (by omega), xl_in _ _ _ (by omega) (by omega)]
      exact (byte_ints (uX 0)).2 ⟨h1, e⟩
    · rw [topped_nth _ _ _ hp, topped_nth _ _ _ hp, xl_in _ _ _ (by omega) (by omega)] at e
      rw [topped_nth _ _ _ hp, xl_in _ _ _ (by omega) (by omega)]
      exact (bx_back (uX i) (uD i)).2 e
theorem encDb_lo {n : Nat} {salt : List Int} (i : Nat) (h : i < n - salt.length - 1) : nth (encDb n salt) i = 0 := by
  unfold encDb
  rw [nth_append_left _ _ _ (by rw [List.length_replicate]; exact h), nth_replicate0]
theorem encDb_one {n : Nat} {salt : List Int} : nth (encDb n salt) (n - salt.length - 1) = 1 := by
  unfold encDb
  have := nth_append_right (List.replicate (n - salt.length - 1) (0 : Int)) (1 :: salt) 0
  rw [List.length_replicate, Nat.add_zero] at this
  rw [this]; rfl
theorem encDb_hi {n : Nat} {salt : List Int} (j : Nat) : nth (encDb n salt) (n - salt.length - 1 + (j + 1)) = nth salt j := by
  unfold encDb
  have := nth_append_right (List.replicate (n - salt.length - 1) (0 : Int)) (1 :: salt) (j + 1)
  rw [List.length_replicate] at this
  rw [this]; rfl
theorem zero_and (t : Int) : bits .and .u8 0 t = 0 := by
  rw [and_eq, show BitVec.ofInt 8 0 = 0#8 from rfl, BitVec.zero_and]; rfl
theorem topped_db (b n : Nat) (salt : List Int) (h : salt.length + 1 ≤ n) : topped (topB b) (encDb n salt) = encDb n salt := by
  refine ext_nth _ _ (topped_len _ _) fun i hi => ?_
  rw [topped_len, encDb_len h] at hi
  rcases Nat.eq_zero_or_pos i with rfl | hp
  · rw [topped_nth0 _ _ (by rw [encDb_len h]; omega)]
    rcases Nat.eq_zero_or_pos (n - salt.length - 1) with e | e
    · have := encDb_one (n := n) (salt := salt)
      rw [e] at this
      rw [this]; exact topB_odd b
    · rw [encDb_lo 0 e]; exact zero_and _
  · exact topped_nth _ _ _ hp
theorem encDb_iff (n k : Nat) (T : List Int) (hT : T.length = n) (hk : k + 1 ≤ n) : T = encDb n (T.drop (n - k)) ↔ (∀ i, i < n - k - 1 → nth T i = 0) ∧ nth T (n - k - 1) = 1 := by
  have ls : (T.drop (n - k)).length = k := by rw [List.length_drop]; omega
  constructor
  · intro h
    constructor
    · intro i hi
      rw [h]; exact encDb_lo i (by rw [ls]; exact hi)
    · have := encDb_one (n := n) (salt := T.drop (n - k))
      rw [ls] at this
      rw [← h] at this
      exact this
  · rintro ⟨h1, h2⟩
    refine ext_nth _ _ (by rw [encDb_len (by omega)]; exact hT) fun i hi => ?_
    rw [hT] at hi
    by_cases h3 : i < n - k - 1
    · rw [h1 i h3, encDb_lo i (by rw [ls]; exact h3)]
    · by_cases h4 : i = n - k - 1
      · have := encDb_one (n := n) (salt := T.drop (n - k))
        rw [ls] at this
        rw [h4, h2, this]
      · obtain ⟨j, rfl⟩ : ∃ j, i = n - k - 1 + (j + 1) := ⟨i - (n - k - 1) - 1, by omega⟩
        have := encDb_hi (n := n) (salt := T.drop (n - k)) j
        rw [ls] at this
        rw [this, nth_drop]
        congr 1; omega
/-- An encoding holds just if it is undone so. -/
theorem holds_iff {h : Int} (hh : IsHash h) (digest em : List Int) (b n : Nat) (hn : shaSize h + 1 ≤ n) (hl : em.length = n + shaSize h + 1) (u : U8 em) :
    holdsAt h digest em b n ↔ nth em (n + shaSize h) = 188 ∧ bits .andNot .u8 (nth em 0) (topB b) = 0 ∧ (∀ i, i < n - shaSize h - 1 → nth (topped (topB b) (undone h em n)) i = 0) ∧
      nth (topped (topB b) (undone h em n)) (n - shaSize h - 1) = 1 ∧ encSum h digest ((topped (topB b) (undone h em n)).drop (n - shaSize h)) = (em.drop n).take (shaSize h) := by
  obtain ⟨k, hk⟩ : ∃ k, k = shaSize h := ⟨_, rfl⟩
  have k0 : 0 < k := by rw [hk]; exact hh.size_le.2.1
  obtain ⟨S, hS⟩ : ∃ S, S = (em.drop n).take k := ⟨_, rfl⟩
  obtain ⟨X, hX⟩ : ∃ X, X = em.take n := ⟨_, rfl⟩
  obtain ⟨q, hq⟩ : ∃ q, q = nth em (n + k) := ⟨_, rfl⟩
  obtain ⟨M, hM⟩ : ∃ M, M = maskOf h S n := ⟨_, rfl⟩
  have lX : X.length = n := by rw [hX, List.length_take]; omega
  have lS : S.length = k := by rw [hS, List.length_take, List.length_drop]; omega
  have lM : M.length = n := by rw [hM, maskOf_len hh]
  have eU : undone h em n = xl X M := by unfold undone; rw [← hk, ← hS, ← hX, ← hM]
  have eE : em = X ++ (S ++ [q]) := by
    have e1 : em.drop n = S ++ [q] := by
      have := take_succ_nth (em.drop n) k (by rw [List.length_drop]; omega)
      rw [List.take_of_length_le (by rw [List.length_drop]; omega), nth_drop, ← hS, ← hq] at this
      exact this
    rw [← e1, hX, List.take_append_drop]
  have uX : U8 X := by rw [hX]; exact u.take (by omega) _
  have n0 : nth em 0 = nth X 0 := by rw [eE, nth_append_left _ _ _ (by omega)]
  obtain ⟨s, hs⟩ : ∃ s, s = (xl X M).drop (n - k) := ⟨_, rfl⟩
  have ls : s.length = k := by rw [hs, List.length_drop, xl_len, lX]; omega
  have us : U8 s := by rw [hs]; exact (xl_u8 uX).drop (by omega) _
  have ts : (topped (topB b) (xl X M)).drop (n - k) = s := by
    rw [hs]; unfold topped
    rw [List.drop_set_of_lt (by omega)]
  have lT : (topped (topB b) (xl X M)).length = n := by rw [topped_len, xl_len, lX]
  unfold holdsAt saltOf
  rw [← hk] at hn hl
  rw [eU, ← hk, ← hq, ← hS, ← hs, n0, ts]
  have main : X = topped (topB b) (xl (encDb n s) M) ↔ bits .andNot .u8 (nth X 0) (topB b) = 0 ∧ (∀ i, i < n - k - 1 → nth (topped (topB b) (xl X M)) i = 0) ∧ nth (topped (topB b) (xl X M)) (n - k - 1) = 1 := by
    rw [masked_iff (topB b) X M (encDb n s) (by omega) (by rw [encDb_len (by omega)]; omega) (by omega) uX (encDb_u8 us), topped_db b n s (by omega)]
    have e := encDb_iff n k (topped (topB b) (xl X M)) lT (by omega)
    rw [ts] at e
    rw [e]
  constructor
  · intro h1
    rw [eE] at h1
    obtain ⟨h2, h3⟩ := List.append_inj h1 (by rw [encBlk_len (by omega)]; exact lX)
    obtain ⟨h4, h5⟩ := List.append_inj h3 (by rw [encSum_len, lS, hk])
    have h6 : q = 188 := by simpa using h5
    unfold encBlk at h2
    rw [← h4, ← hM] at h2
    obtain ⟨m1, m2, m3⟩ := main.1 h2
    exact ⟨h6, m1, m2, m3, h4.symm⟩
  · rintro ⟨h6, m1, m2, m3, h4⟩
    have h2 := main.2 ⟨m1, m2, m3⟩
    rw [eE, h4, h6]
    unfold encBlk
    rw [h4, ← hM, ← h2]
end Go.Sg
/- pss.Mask by its contract. -/
set_option linter.unusedVariables false
set_option linter.unusedSimpArgs false
namespace Go.Sg
open Go.RowKit
theorem i64_and255 (n : Int) : bits .and .i64 n 255 = n % 256 := by
  have h255 : (BitVec.ofInt 64 255).toNat = 2 ^ 8 - 1 := by decide
  have key : (BitVec.ofInt 64 n &&& BitVec.ofInt 64 255).toNat = (n % ((2 ^ 64 : Nat) : Int)).toNat % 2 ^ 8 := by
    rw [BitVec.toNat_and, BitVec.toNat_ofInt, h255, Nat.and_two_pow_sub_one_eq_mod]
  show IntKind.i64.wrap ((BitVec.ofInt 64 n &&& BitVec.ofInt 64 255).toNat : Nat) = n % 256
  rw [key, IntKind.wrap_i64]
  omega
/-- What Mask hands back. -/
def mres (h : Int) (seed : List Int) (n : Int) : List Int := if IsHash h ∧ 0 ≤ n ∧ n ≤ 65536 then maskOf h seed n.toNat else []
def mcode (h n : Int) : Int := if IsHash h then (if 0 ≤ n ∧ n ≤ 65536 then 0 else 10) else 111
theorem mres_u8 (h : Int) (seed : List Int) (n : Int) : U8 (mres h seed n) := by
  unfold mres
  split
  · exact maskOf_u8 _ _ _
  · exact .nil (by omega)
end Go.Sg
namespace Go.Proofs.YtbmdifeanocahaaDoor
open Go.RowKit Go.Sg
def MaskPost (h : Int) (seed : List Int) (n : Int) (w : World) (e : Ending) (w' : World) : Prop := ∃ v, e = .returned (.tuple #[v, .int .i64 (mcode h n)]) ∧ New w.heap.size .u8 5 w' v (mres h seed n) ∧ Below w.heap.size w w'

set_option maxHeartbeats 4000000 in
set_option maxRecDepth 20000 in
theorem pMask_c (h n : Int) (a : Option Addr) (cap : Nat) (seed : List Int) (w : World) (hx : Sl .u8 w a cap seed) (ux : U8 seed) (hl : seed.length ≤ 1048576) (ht : ShaTabs w) :
    Calls Tryd.prog 67 #[.int .i64 h, .slice a seed.length cap, .int .i64 n] w (MaskPost h seed n w) := by
  have sz := Size_c h w
  by_cases hh : IsHash h
  · obtain ⟨z, hz⟩ : ∃ z, z = shaSize h := ⟨_, rfl⟩
    have hz0 : 0 < z := by rw [hz]; exact hh.size_le.2.1
    rw [← hz] at sz
    have e0 : ((z : Int) == 0) = false := beq_false_of_ne (by omega)
    clear hz
    by_cases hn : 0 ≤ n ∧ n ≤ 65536
    · obtain ⟨N, rfl⟩ : ∃ N : Nat, n = (N : Int) := ⟨n.toNat, by omega⟩
      have nb : N ≤ 65536 := by omega
      have d0 : decide ((N : Int) < 0) = false := decide_eq_false (by omega)
      have d1 : decide ((65536 : Int) < (N : Int)) = false := decide_eq_false (by omega)
      have d2 : ¬ (65536 : Int) < (N : Int) := by omega
      have er : Hid (mres h seed (N : Int) = maskOf h seed N) := Lib.hid (by unfold mres; rw [if_pos ⟨hh, hn⟩, Int.toNat_natCast])
      have ec : Hid (mcode h (N : Int) = 0) := Lib.hid (by unfold mcode; rw [if_pos hh, if_pos hn])
      have top := ht.top
      clear hn
      go_enter Tryd.func67, Tryd.ntmps67
      go_wp2_with fail
      refine sz.mono ?_; rintro e w' ⟨rfl, rfl⟩
      clear sz
      go_wp2_with (at_make; refine wpList_make_blk _ rfl _ _ 23 rfl 5 .u8 1 Tryd.underlying23 info8s N _ _ rfl rfl rfl rfl (by omega) (by omega) ?_)
      intro w1 hk1 hs1 hb1
      have hx1 := hx.below hb1
      have ap := hx.apart (Nat.le_refl w.heap.size)
      have ht1 := ht.below hb1
      obtain ⟨G, hG⟩ : ∃ G, G = w.heap.size := ⟨_, rfl⟩
      rw [← hG] at hk1 ap top ⊢
      have hGw : w.heap.size ≤ G := Nat.le_of_eq hG.symm
      clear hG hs1
      go_wp2_with fail
      have hk0 : Blk w1 G .u8 5 (List.replicate N 0 ++ []) := by rw [List.append_nil]; exact hk1
      refine (pmask_c h hh a cap seed (List.replicate N 0) [] G N N w1 hx1 ux List.length_replicate _ (isR_blk G 5) hk0 nb (Nat.le_refl _) hl ap top ht1).mono ?_; rintro e w2 ⟨rfl, hk2, hg2⟩
      rw [xl_zero (maskOf_len hh _ _) (maskOf_u8 _ _ _), List.append_nil] at hk2
      have hb2 := below_then hb1 hg2 hGw hb1.size
      have hnew := New.of_blk hk2 hGw N N (Nat.le_refl _) (by rw [maskOf_len hh]; exact Nat.le_refl _) (by omega)
      rw [List.take_of_length_le (by rw [maskOf_len hh]; exact Nat.le_refl _)] at hnew
      clear hk2 hg2 hk1 hk0 hb1
      go_wp2_with fail
      go_ret2
      exact ⟨_, by rw [ec.out]; first | done | rfl, by rw [er.out]; exact hnew, hb2⟩
    · have er : Hid (mres h seed n = []) := Lib.hid (by unfold mres; rw [if_neg fun e => hn e.2])
      have ec : Hid (mcode h n = 10) := Lib.hid (by unfold mcode; rw [if_pos hh, if_neg hn])
      by_cases q : n < 0
      · have d0 : decide (n < 0) = true := decide_eq_true q
        go_enter Tryd.func67, Tryd.ntmps67
        go_wp2_with fail
        refine sz.mono ?_; rintro e w' ⟨rfl, rfl⟩
        go_wp2_with fail
        go_ret2
        exact ⟨_, by rw [ec.out]; first | done | rfl, by rw [er.out]; exact .nil _ _ _ _, .refl _ _⟩
      · have d0 : decide (n < 0) = false := decide_eq_false q
        have d1 : decide ((65536 : Int) < n) = true := decide_eq_true (by omega)
        clear hn
        go_enter Tryd.func67, Tryd.ntmps67
        go_wp2_with fail
        refine sz.mono ?_; rintro e w' ⟨rfl, rfl⟩
        go_wp2_with fail
        go_ret2
        exact ⟨_, by rw [ec.out]; first | done | rfl, by rw [er.out]; exact .nil _ _ _ _, .refl _ _⟩
  · rw [shaSize_no hh] at sz
    have er : Hid (mres h seed n = []) := Lib.hid (by unfold mres; rw [if_neg fun e => hh e.1])
    have ec : Hid (mcode h n = 111) := Lib.hid (by unfold mcode; rw [if_neg hh])
    go_enter Tryd.func67, Tryd.ntmps67
    go_wp2_with fail
    refine sz.mono ?_; rintro e w' ⟨rfl, rfl⟩
    go_wp2_with fail
    go_ret2
    exact ⟨_, by rw [ec.out]; first | done | rfl, by rw [er.out]; exact .nil _ _ _ _, .refl _ _⟩
end Go.Proofs.YtbmdifeanocahaaDoor
/- pss.high, second, signetlaw10.turn, by their contracts. (Printed by gen_pssc.py.) -/
set_option linter.unusedVariables false
set_option linter.unusedSimpArgs false
namespace Go.Sg
open Go.RowKit
theorem i64_and7 (n : Int) : bits .and .i64 n 7 = n % 8 := by
  have h7 : (BitVec.ofInt 64 7).toNat = 2 ^ 3 - 1 := by decide
  have key : (BitVec.ofInt 64 n &&& BitVec.ofInt 64 7).toNat = (n % ((2 ^ 64 : Nat) : Int)).toNat % 2 ^ 3 := by
    rw [BitVec.toNat_and, BitVec.toNat_ofInt, h7, Nat.and_two_pow_sub_one_eq_mod]
  show IntKind.i64.wrap ((BitVec.ofInt 64 n &&& BitVec.ofInt 64 7).toNat : Nat) = n % 8
  rw [key, IntKind.wrap_i64]
  omega
/-- Bytes turned round. -/
def ng (xs : List Int) : List Int := xs.map (255 - ·)
theorem ng_len (xs : List Int) : (ng xs).length = xs.length := by unfold ng; rw [List.length_map]
theorem nth_ng (xs : List Int) (i : Nat) (h : i < xs.length) : nth (ng xs) i = 255 - nth xs i := by
  rw [nth_get _ _ (by rw [ng_len]; exact h), nth_get _ _ h]; simp [ng]
theorem ng_u8 {xs : List Int} (u : U8 xs) : U8 (ng xs) := by
  intro i
  by_cases h : i < xs.length
  · rw [nth_ng _ _ h]; have := u i; omega
  · rw [nth_out _ _ (by rw [ng_len]; omega)]; omega
end Go.Sg
namespace Go.Proofs.YtbmdifeanocahaaDoor
open Go.RowKit Go.Sg

theorem high_c (b : Nat) (hb : b ≤ 65536) (w : World) : Calls Tryd.prog 70 #[.int .i64 (b : Int)] w fun e w' => e = .returned (.int .u8 (topB b)) ∧ w = w' := by
  have e : bits .and .i64 (b : Int) 7 = ((b % 8 : Nat) : Int) := by rw [i64_and7]; omega
  obtain ⟨r, hr⟩ : ∃ r, r = b % 8 := ⟨_, rfl⟩
  have r8 : r < 8 := by omega
  have et : topB b = ((255 / 2 ^ ((8 - r) % 8) : Nat) : Int) := by unfold topB; rw [hr]
  rw [← hr] at e
  rw [et]
  clear et hr
  rcases (by omega : r = 0 ∨ r = 1 ∨ r = 2 ∨ r = 3 ∨ r = 4 ∨ r = 5 ∨ r = 6 ∨ r = 7) with rfl | rfl | rfl | rfl | rfl | rfl | rfl | rfl
  · have e0 : bits .and .i64 (b : Int) 7 = 0 := e
    have e1 : bits .and .i64 8 7 = 0 := by decide
    have e2 : ((255 / 2 ^ ((8 - 0) % 8) : Nat) : Int) = 255 := by decide
    rw [e2]
    clear e e2
    go_enter Tryd.func70, Tryd.ntmps70
    go_wp2_with fail
    go_ret
    exact ⟨rfl, rfl⟩
  · have e0 : bits .and .i64 (b : Int) 7 = 1 := e
    have e1 : bits .and .i64 7 7 = 7 := by decide
    have e2 : ((255 / 2 ^ ((8 - 1) % 8) : Nat) : Int) = 1 := by decide
    rw [e2]
    clear e e2
    go_enter Tryd.func70, Tryd.ntmps70
    go_wp2_with fail
    go_ret
    exact ⟨rfl, rfl⟩
  · have e0 : bits .and .i64 (b : Int) 7 = 2 := e
    have e1 : bits .and .i64 6 7 = 6 := by decide
    have e2 : ((255 / 2 ^ ((8 - 2) % 8) : Nat) : Int) = 3 := by decide
    rw [e2]
    clear e e2
    go_enter Tryd.func70, Tryd.ntmps70
    go_wp2_with fail
    go_ret
    exact ⟨rfl, rfl⟩
  · have e0 : bits .and .i64 (b : Int) 7 = 3 := e
    have e1 : bits .and .i64 5 7 = 5 := by decide
    have e2 : ((255 / 2 ^ ((8 - 3) % 8) : Nat) : Int) = 7 := by decide
    rw [e2]
    clear e e2
    go_enter Tryd.func70, Tryd.ntmps70
    go_wp2_with fail
    go_ret
    exact ⟨rfl, rfl⟩
  · have e0 : bits .and .i64 (b : Int) 7 = 4 := e
    have e1 : bits .and .i64 4 7 = 4 := by decide
    have e2 : ((255 / 2 ^ ((8 - 4) % 8) : Nat) : Int) = 15 := by decide
    rw [e2]
    clear e e2
    go_enter Tryd.func70, Tryd.ntmps70
    go_wp2_with fail
    go_ret
    exact ⟨rfl, rfl⟩
  · have e0 : bits .and .i64 (b : Int) 7 = 5 := e
    have e1 : bits .and .i64 3 7 = 3 := by decide
    have e2 : ((255 / 2 ^ ((8 - 5) % 8) : Nat) : Int) = 31 := by decide
    rw [e2]
    clear e e2
    go_enter Tryd.func70, Tryd.ntmps70
    go_wp2_with fail
    go_ret
    exact ⟨rfl, rfl⟩
  · have e0 : bits .and .i64 (b : Int) 7 = 6 := e
    have e1 : bits .and .i64 2 7 = 2 := by decide
    have e2 : ((255 / 2 ^ ((8 - 6) % 8) : Nat) : Int) = 63 := by decide
    rw [e2]
    clear e e2
    go_enter Tryd.func70, Tryd.ntmps70
    go_wp2_with fail
    go_ret
    exact ⟨rfl, rfl⟩
  · have e0 : bits .and .i64 (b : Int) 7 = 7 := e
    have e1 : bits .and .i64 1 7 = 1 := by decide
    have e2 : ((255 / 2 ^ ((8 - 7) % 8) : Nat) : Int) = 127 := by decide
    rw [e2]
    clear e e2
    go_enter Tryd.func70, Tryd.ntmps70
    go_wp2_with fail
    go_ret
    exact ⟨rfl, rfl⟩

set_option maxHeartbeats 2000000 in
theorem second_c (h : Int) (a a' : Option Addr) (cap cap' : Nat) (d s : List Int) (w : World) (hx : Sl .u8 w a cap d) (hy : Sl .u8 w a' cap' s) (ux : U8 d) (uy : U8 s) (hl : d.length + s.length ≤ 2097152) (ht : ShaTabs w) :
    Calls Tryd.prog 68 #[.int .i64 h, .slice a d.length cap, .slice a' s.length cap'] w (BytesPost (encSum h d s) w) := by
  have eF : encSum h d s = sha h (flat [⟨some ⟨w.heap.size, 0, none⟩, 8, z8⟩, ⟨a, cap, d⟩, ⟨a', cap', s⟩]) := by
    unfold encSum; simp [flat]
  have lF : (flat [⟨some ⟨w.heap.size, 0, none⟩, 8, z8⟩, ⟨a, cap, d⟩, ⟨a', cap', s⟩]).length < 2305843009213693952 := by
    simp [flat, z8]; omega
  rw [eF]
  obtain ⟨T, hT⟩ : ∃ T, T = flat [⟨some ⟨w.heap.size, 0, none⟩, 8, z8⟩, ⟨a, cap, d⟩, ⟨a', cap', s⟩] := ⟨_, rfl⟩
  rw [← hT] at lF ⊢
  have HT := Lib.hid hT
  clear eF hT
  go_enter Tryd.func68, Tryd.ntmps68
  go_wp2_with (at_make; refine wpList_make_blk _ rfl _ _ 23 rfl 5 .u8 1 Tryd.underlying23 info8s 8 _ _ rfl rfl (by omega) (by omega) (by omega) (by omega) ?_)
  intro w1 hk1 hs1 hb1
  have hx1 := hx.below hb1
  have hy1 := hy.below hb1
  have ht1 := ht.below hb1
  have s8 : Sl .u8 w1 (some ⟨w.heap.size, 0, none⟩) 8 z8 := hk1.sl_full (by simp)
  have al := (Below.refl w1.heap.size w1).alloc (Nat.le_refl _) (.cells #[.slice (some ⟨w.heap.size, 0, none⟩) 8 8, .slice a d.length cap, .slice a' s.length cap'] 23)
  have cs := ShaSum_c h (some ⟨w1.heap.size, 0, none⟩) 3 [⟨some ⟨w.heap.size, 0, none⟩, 8, z8⟩, ⟨a, cap, d⟩, ⟨a', cap', s⟩] _
    (rows_new w1 23 [⟨some ⟨w.heap.size, 0, none⟩, 8, z8⟩, ⟨a, cap, d⟩, ⟨a', cap', s⟩] #[.slice (some ⟨w.heap.size, 0, none⟩) 8 8, .slice a d.length cap, .slice a' s.length cap'] rfl
      (by intro p hp; simp only [List.mem_cons, List.not_mem_nil, or_false] at hp; rcases hp with rfl | rfl | rfl <;> first | exact s8 | exact hx1 | exact hy1)
      (by intro p hp; simp only [List.mem_cons, List.not_mem_nil, or_false] at hp; rcases hp with rfl | rfl | rfl <;> first | exact z8_u8 | exact ux | exact uy)) (by simp) (by rw [← HT.out]; exact lF) (ht1.below al)
  rw [← HT.out] at cs
  have cs2 := cs.mono fun e w' p => SumPost.from al p
  clear cs al s8 hk1 lF hs1
  go_wp2_with fail
  refine cs2.mono ?_; rintro e w2 ⟨v, rfl, hv, hb⟩
  go_wp2_with fail
  go_ret
  exact ⟨v, rfl, hv.mono hb1.size, hb1.trans (hb.mono hb1.size)⟩

set_option maxHeartbeats 2000000 in
theorem turn_c (g K : Nat) (xs tl : List Int) (w : World) (hk : Blk w g .u8 5 (xs ++ tl)) (ux : U8 xs) (hl : xs.length ≤ 140737488350000) (hK : xs.length ≤ K) :
    Calls Tryd.prog 34 #[.slice (some ⟨g, 0, none⟩) xs.length K] w fun e w' => e = .returned (.tuple #[]) ∧ Blk w' g .u8 5 (ng xs ++ tl) ∧ w.grownBy w' (some g) := by
  obtain ⟨l, hl1⟩ : ∃ l, l = xs.length := ⟨_, rfl⟩
  have HL := Lib.hid hl1
  rw [← hl1] at hl hK ⊢
  clear hl1
  go_enter Tryd.func34, Tryd.ntmps34
  go_wp2_with fail
  go_loopw [2] (fun t wr => ∃ (k : Nat) (z : List Int), k ≤ l ∧ t = .int .i64 (k : Int) ∧ z.length = l ∧ U8 z ∧ (∀ j, j < l → nth z j = if j < k then 255 - nth xs j else nth xs j) ∧ Blk wr g .u8 5 (z ++ tl) ∧ w.grownBy wr (some g)) (fun t _ => l - (intOf t).toNat)
  case atStart => exact ⟨0, xs, by omega, rfl, HL.out.symm, ux, fun j _ => by simp, hk, rfl, rfl, rfl, Nat.le_refl _, fun _ _ _ => rfl⟩
  case round =>
    clear hk
    obtain ⟨k, z, hk1, rfl, hzl, hu, hz, hkb, hg⟩ := hrel
    have ZL := Lib.hid hzl
    have HZ := Lib.hid hz
    clear hzl hz
    by_cases hlt : k < l
    · have c0 := hkb.cell k (by rw [List.length_append, ZL.out]; omega)
      rw [nth_append_left _ _ _ (by rw [ZL.out]; exact hlt)] at c0
      have f0 := hkb.free k
      have ux1 := hu k
      obtain ⟨x, hx⟩ : ∃ x, x = nth z k := ⟨_, rfl⟩
      rw [← hx] at c0 ux1
      obtain ⟨y, hy⟩ : ∃ y, y = 255 - x := ⟨_, rfl⟩
      have hyw : IntKind.u8.wrap (255 - x) = y := by rw [IntKind.wrap_u8', hy]; omega
      have hym : (255 - x) % 256 = y := by rw [hy]; omega
      have y0 : 0 ≤ y ∧ y ≤ 255 := by omega
      have hs := hkb.set k y
      rw [List.set_append_left _ _ (by rw [ZL.out]; exact hlt)] at hs
      have hg' := only_setCell (p := ⟨g, k, none⟩) hg (.inl rfl) (.int .u8 y)
      have hl2 : Hid ((z.set k y).length = l) := Lib.hid (by rw [List.length_set, ZL.out])
      have hu2 := InR.set hu k y0.1 y0.2
      have hz2 : Hid (∀ j, j < l → nth (z.set k y) j = if j < k + 1 then 255 - nth xs j else nth xs j) := Lib.hid (by
        intro j hj
        have h0 := HZ.out
        rw [nth_set _ _ _ _ (by rw [ZL.out]; exact hlt)]
        by_cases h1 : k = j
        · subst h1
          rw [if_pos rfl, if_pos (by omega), hy, hx, h0 k hj, if_neg (by omega)]
        · rw [if_neg h1, h0 j hj]
          by_cases h2 : j < k
          · rw [if_pos h2, if_pos (by omega)]
          · rw [if_neg h2, if_neg (by omega)])
      have hin : (k : Int) < (l : Int) := by omega
      have hd1 : decide ((k : Int) < (l : Int)) = true := decide_eq_true hin
      clear hx hy hkb hg
      go_wp2_with fail
      go_roundw
      case rel => exact ⟨k + 1, _, by omega, by go_num, hl2.out, hu2, hz2.out, hs, hg'⟩
      case measure => simp [intOf]; omega
    · obtain rfl : l = k := by omega
      have hd1 : decide ((l : Int) < (l : Int)) = false := by simp
      have e : Hid (z = ng xs) := Lib.hid (ext_nth _ _ (by rw [ng_len, ZL.out, HL.out]) fun j hj => by
        rw [ZL.out] at hj
        rw [HZ.out j hj, if_pos hj, nth_ng _ _ (by rw [← HL.out]; exact hj)])
      go_wp2_with fail
      go_end0
      exact ⟨rfl, by rw [← e.out]; exact hkb, hg⟩
end Go.Proofs.YtbmdifeanocahaaDoor
/- pss.Encode by its contract. -/
set_option linter.unusedVariables false
set_option linter.unusedSimpArgs false
namespace Go.Sg
open Go.RowKit
theorem enc_copy {E n p : Nat} (s : List Int) (hp : p + s.length = n) (hn : n ≤ E) :
    (List.replicate E (0 : Int)).take p ++ (s.take s.length ++ (List.replicate E 0).drop (p + min s.length s.length)) = List.replicate p 0 ++ (s ++ List.replicate (E - n) 0) := by
  rw [List.take_replicate, Nat.min_eq_left (by omega), List.take_length, Nat.min_self, List.drop_replicate, hp]
theorem enc_one {n p q : Nat} (s t : List Int) (hp : p + s.length = n) (hq : q + 1 = p) : (List.replicate p (0 : Int) ++ (s ++ t)).set q 1 = encDb n s ++ t := by
  unfold encDb
  rw [← hq, List.replicate_succ', List.append_assoc, List.set_append_right _ _ (by rw [List.length_replicate]; omega), List.length_replicate, Nat.sub_self, show n - s.length - 1 = q by omega, List.append_assoc]
  rfl
theorem enc_top {X t : List Int} {y : Int} (hX : 0 < X.length) : (X ++ t).set 0 y = X.set 0 y ++ t := List.set_append_left _ _ hX
theorem enc_sum {E n z : Nat} (B H : List Int) (hB : B.length = n) (hH : H.length = z) (hE : n + z + 1 = E) :
    B ++ (H.take (z + 1) ++ (B ++ List.replicate (E - n) (0 : Int)).drop (n + z)) = B ++ (H ++ [0]) := by
  subst hB hH
  rw [List.take_of_length_le (l := H) (by omega), List.drop_append, List.drop_of_length_le (by omega), List.nil_append, List.drop_replicate, show E - B.length - (B.length + H.length - B.length) = 1 by omega]
  rfl
theorem enc_last {E n z : Nat} (B H : List Int) (hB : B.length = n) (hH : H.length = z) (hE : n + z + 1 = E) : (B ++ (H ++ [(0 : Int)])).set (E - 1) 188 = B ++ (H ++ [188]) := by
  rw [List.set_append_right _ _ (by omega), List.set_append_right _ _ (by omega), show E - 1 - B.length - H.length = 0 by omega]
  rfl
end Go.Sg
namespace Go.Proofs.YtbmdifeanocahaaDoor
open Go.RowKit Go.Sg
def EncPost (h : Int) (d s : List Int) (n : Int) (w : World) (e : Ending) (w' : World) : Prop := ∃ v, e = .returned (.tuple #[v, .int .i64 (ecode h d s n)]) ∧ New w.heap.size .u8 5 w' v (eres h d s n) ∧ Below w.heap.size w w'

set_option maxHeartbeats 8000000 in
set_option maxRecDepth 20000 in
theorem pEncode_c (h bits' : Int) (a a' : Option Addr) (cap cap' : Nat) (d s : List Int) (w : World) (hx : Sl .u8 w a cap d) (hy : Sl .u8 w a' cap' s) (ux : U8 d) (uy : U8 s) (hl : d.length + s.length ≤ 2097152) (ht : ShaTabs w) :
    Calls Tryd.prog 38 #[.int .i64 h, .slice a d.length cap, .slice a' s.length cap', .int .i64 bits'] w (EncPost h d s bits' w) := by
  have sz := Size_c h w
  by_cases hh : IsHash h
  · obtain ⟨z, hz⟩ : ∃ z, z = shaSize h := ⟨_, rfl⟩
    have hz0 : 0 < z := by rw [hz]; exact hh.size_le.2.1
    have hz64 : z ≤ 64 := by rw [hz]; exact shaSize_le h
    rw [← hz] at sz
    have HZ := Lib.hid hz
    have e0 : ((z : Int) == 0) = false := beq_false_of_ne (by omega)
    clear hz
    by_cases hn : 0 ≤ bits' ∧ bits' ≤ 65536
    · obtain ⟨b, rfl⟩ : ∃ N : Nat, bits' = (N : Int) := ⟨bits'.toNat, by omega⟩
      have nb : b ≤ 65536 := by omega
      have d0 : decide ((b : Int) < 0) = false := decide_eq_false (by omega)
      have d1 : decide ((65536 : Int) < (b : Int)) = false := decide_eq_false (by omega)
      have d2 : ¬ (65536 : Int) < (b : Int) := by omega
      obtain ⟨E, hE⟩ : ∃ E, E = encLen b := ⟨_, rfl⟩
      have HE := Lib.hid hE
      have eb : E ≤ 8192 := by rw [hE]; unfold encLen; omega
      have q0 : ((b : Int) + 7) / 8 = (E : Int) := by rw [hE]; unfold encLen; omega
      clear hE
      by_cases hf : d.length = z ∧ z + s.length + 2 ≤ E
      · obtain ⟨hdz, hzs⟩ := hf
        have fits : Hid (encFits h d s b) := Lib.hid ⟨by rw [hdz, HZ.out], by rw [← HZ.out, ← HE.out]; exact hzs⟩
        have er : Hid (eres h d s (b : Int) = encOf h d s b) := Lib.hid (by unfold eres; rw [if_pos ⟨hh, hn, by rw [Int.toNat_natCast]; exact fits.out⟩, Int.toNat_natCast])
        have ec : Hid (ecode h d s (b : Int) = 0) := Lib.hid (by unfold ecode; rw [if_pos hh, if_pos hn, if_pos (by rw [Int.toNat_natCast]; exact fits.out)])
        have top := ht.top
        have g1 : ((z : Int) != (z : Int)) = false := by simp
        obtain ⟨m, hm⟩ : ∃ m, m = s.length := ⟨_, rfl⟩
        have DL := Lib.hid hdz
        have SL := Lib.hid hm
        have HLL := Lib.hid hl
        rw [hdz, ← hm]
        rw [← hm] at hzs
        clear hdz hm hl
        have g2 : decide ((E : Int) - (z : Int) - 2 < (m : Int)) = false := decide_eq_false (by omega)
        have g3 : ¬ (E : Int) - (z : Int) - 2 < (m : Int) := by omega
        obtain ⟨n, hnE⟩ : ∃ n, n + z + 1 = E := ⟨E - z - 1, by omega⟩
        obtain ⟨p, hpn⟩ : ∃ p, p + m = n := ⟨n - m, by omega⟩
        obtain ⟨q, hqp⟩ : ∃ q, q + 1 = p := ⟨p - 1, by omega⟩
        have x1 : (E : Int) - (z : Int) - 1 = (n : Int) := by omega
        have x2 : (n : Int) - (m : Int) = (p : Int) := by omega
        have x3 : (p : Int) - 1 = (q : Int) := by omega
        obtain ⟨E1, hE1⟩ : ∃ q, q + 1 = E := ⟨E - 1, by omega⟩
        have x4 : (E : Int) - 1 = (E1 : Int) := by omega
        have n0 : 0 < n := by omega
        have qn : q < n := by omega
        have l8 : E1 < E := by omega
        clear hn
        go_enter Tryd.func38, Tryd.ntmps38
        go_wp2_with fail
        refine sz.mono ?_; rintro e w' ⟨rfl, rfl⟩
        clear sz
        go_wp2_with (at_make; refine wpList_make_blk _ rfl _ _ 23 rfl 5 .u8 1 Tryd.underlying23 info8s E _ _ rfl rfl rfl rfl (by omega) (by omega) ?_)
        intro w1 hk1 hs1 hb1
        have hx1 := hx.below hb1
        have hy1 := hy.below hb1
        have ht1 := ht.below hb1
        have apx := hx.apart (Nat.le_refl w.heap.size)
        have apy := hy.apart (Nat.le_refl w.heap.size)
        obtain ⟨G, hG⟩ : ∃ G, G = w.heap.size := ⟨_, rfl⟩
        rw [← hG] at hk1 apx apy top ⊢
        have hGw : w.heap.size ≤ G := Nat.le_of_eq hG.symm
        clear hG hs1
        have hcut1 := fun W => cut_h0 (P := Tryd.prog) W 23 5 Tryd.underlying23 size8 (some ⟨G, 0, none⟩) E E n (by omega)
        have hcut2 := fun W => cut_l (P := Tryd.prog) W 23 5 Tryd.underlying23 size8 (some ⟨G, 0, none⟩) n E p (by omega) (p : Int) rfl
        have hcut3 := fun W => cut_l (P := Tryd.prog) W 23 5 Tryd.underlying23 size8 (some ⟨G, 0, none⟩) E E n (by omega) (n : Int) rfl
        rw [if_neg (by omega), Option.map_some, Addr.add_mid, Nat.zero_add, show n - p = m by omega] at hcut2
        rw [if_neg (by omega), Option.map_some, Addr.add_mid, Nat.zero_add, show E - n = z + 1 by omega] at hcut3
        go_wp2_with (with_reducible refine wpList_copy_blk rfl _ _ 23 23 rfl 5 Tryd.underlying23 size8 _ G p _ _ _ _ _ rfl rfl .u8 _ s hk1 hy1.cells SL.out.symm (fun _ _ => rfl) (by rw [List.length_replicate]; omega) ?_)
        intro w2 hk2 hg2 hs2
        rw [Nat.min_eq_left (by omega), List.take_of_length_le (l := s) (by rw [← SL.out]; omega)] at hk2
        have hb2 := below_then hb1 hg2 hGw hb1.size
        have hx2 := hx1.grown' hg2 (fun b off ha hp e => apx b off ha hp (Option.some.inj e))
        have hy2 := hy1.grown' hg2 (fun b off ha hp e => apy b off ha hp (Option.some.inj e))
        have ht2 := ht1.grown hg2 top
        have lq : q < (List.replicate p (0 : Int) ++ (s ++ List.replicate (E - n) 0)).length := by rw [List.length_append, List.length_replicate]; omega
        have c0 := hk2.cell q lq
        have f0 := hk2.free q
        have hk3 := hk2.set q 1
        rw [enc_one (n := n) s _ (by rw [← SL.out]; exact hpn) hqp] at hk3
        have hg3 := grownBy_set w2 ⟨G, q, none⟩ (.int .u8 1)
        have hx3 := hx2.grown' hg3 (fun b off ha hp e => apx b off ha hp (Option.some.inj e))
        have hy3 := hy2.grown' hg3 (fun b off ha hp e => apy b off ha hp (Option.some.inj e))
        have ht3 := ht2.grown hg3 top
        have hb3 := below_then hb2 hg3 hGw hb2.size
        clear hk1 hk2 hg2 hb1 hb2 hx1 hy1 hx2 hy2 ht1 ht2 hs2 lq hg3
        go_wp2_with fail
        obtain ⟨w3, hw3⟩ : ∃ x, x = w2.setCell ⟨G, q, none⟩ (.int .u8 1) := ⟨_, rfl⟩
        rw [← hw3] at hk3 hx3 hy3 ht3 hb3 ⊢
        have b3s := hb3.size
        have sc := second_c h a a' cap cap' d s w3 hx3 hy3 ux uy HLL.out ht3
        rw [DL.out, ← SL.out] at sc
        refine sc.mono ?_; rintro e w4 ⟨v, rfl, nH, hb⟩
        obtain ⟨aH, cH, rfl, sH⟩ := nH.sl
        have apH : ∀ b off, aH = some ⟨b, off, none⟩ → 0 < (encSum h d s).length → b ≠ G := fun b off ha _ e => by
          have h1 := nH.far b off ha
          have h2 := hk3.lt
          omega
        obtain ⟨zH, hzH⟩ : ∃ x, x = encSum h d s := ⟨_, rfl⟩
        rw [← hzH] at sH apH ⊢
        have uH : U8 zH := by rw [hzH]; exact encSum_u8 _ _ _
        have lH : Hid (zH.length = z) := Lib.hid (by rw [hzH, encSum_len, HZ.out])
        have EH := Lib.hid hzH
        rw [lH.out]
        have hk4 := hk3.below hb hk3.lt
        have ht4 := ht3.below hb
        have hb4 := hb3.trans (hb.mono b3s)
        have b4s := hb4.size
        have lD : (encDb n s).length = n := encDb_len (by rw [← SL.out]; omega)
        clear nH hzH hb hk3 hx3 hy3 ht3 hb3 c0 f0
        go_wp2_with fail
        have pm := (pmask_c h hh aH cH zH (encDb n s) (List.replicate (E - n) 0) G n E w4 sH uH lD _ (isR_blk G 5) hk4 (by omega) (by omega) (by rw [lH.out]; omega) apH top ht4)
        rw [lH.out] at pm
        refine pm.mono ?_; rintro e w5 ⟨rfl, hk5, hg5⟩
        have sH5 := sH.grown' hg5 (fun b off ha hp e => apH b off ha hp (Option.some.inj e))
        have hb5 := below_then hb4 hg5 hGw b4s
        have b5s := hb5.size
        have hk5' : Blk w5 G .u8 5 (xl (encDb n s) (maskOf h zH n) ++ List.replicate (E - n) 0) := hk5
        obtain ⟨X, hX⟩ : ∃ X, X = xl (encDb n s) (maskOf h zH n) := ⟨_, rfl⟩
        rw [← hX] at hk5'
        have lX : X.length = n := by rw [hX, xl_len, lD]
        have HX := Lib.hid hX
        have c1 := hk5'.cell 0 (by rw [List.length_append]; omega)
        rw [nth_append_left _ _ _ (by omega)] at c1
        have f1 := hk5'.free 0
        obtain ⟨x, hx0⟩ : ∃ x, x = nth X 0 := ⟨_, rfl⟩
        rw [← hx0] at c1
        obtain ⟨t, htB⟩ : ∃ t, t = topB b := ⟨_, rfl⟩
        obtain ⟨y, hy0⟩ : ∃ y, y = bits .and .u8 x t := ⟨_, rfl⟩
        have a1 : bits .and .u8 x t = y := hy0.symm
        have hk6 := hk5'.set 0 y
        rw [enc_top (by omega)] at hk6
        have eT : Hid (X.set 0 y = encBlk h d s b n) := Lib.hid (by
          unfold encBlk topped
          rw [hy0, hx0, htB, HX.out, EH.out])
        rw [eT.out] at hk6
        have hg6 := grownBy_set w5 ⟨G, 0, none⟩ (.int .u8 y)
        have sH6 := sH5.grown' hg6 (fun b off ha hp e => apH b off ha hp (Option.some.inj e))
        have hb6 := below_then hb5 hg6 hGw b5s
        have hc := high_c b nb w5.drew
        rw [← htB] at hc
        clear hk4 hk5 hk5' hg5 hb4 hb5 ht4 sH sH5 hX hx0 htB hy0 hg6
        go_wp2_with fail
        go_still_tail 7, (by kernel_rfl)
        still_call (hc.mono fun e w' h => ⟨h.1, h.2.symm⟩)
        repeat still_step
        refine wpStill_nil ?_
        change wpList _ _ _ _ _ w5.drew
        have lB : (encBlk h d s b n).length = n := encBlk_len (by rw [← SL.out]; omega)
        obtain ⟨B, hB⟩ : ∃ B, B = encBlk h d s b n := ⟨_, rfl⟩
        rw [← hB] at hk6 lB
        have HB := Lib.hid hB
        clear hB hc
        have hk6' : Blk (w5.setCell ⟨G, 0, none⟩ (.int .u8 y)).drew G .u8 5 (B ++ List.replicate (E - n) 0) := hk6
        have sH6' : Sl .u8 (w5.setCell ⟨G, 0, none⟩ (.int .u8 y)).drew aH cH zH := sH6.drewN 1
        have hb6' : Below w.heap.size w (w5.setCell ⟨G, 0, none⟩ (.int .u8 y)).drew := hb6.drew
        clear hk6 sH6 hb6
        go_wp2_with (with_reducible refine wpList_copy_blk rfl _ _ 23 23 rfl 5 Tryd.underlying23 size8 _ G n _ _ _ _ _ rfl rfl .u8 _ zH hk6' sH6'.cells lH.out (fun _ _ => rfl) (by rw [List.length_append, List.length_replicate]; omega) ?_)
        intro w7 hk7 hg7 hs7
        rw [enc_sum B zH lB lH.out hnE] at hk7
        have hb7 := below_then hb6' hg7 hGw hb6'.size
        have l7 : E1 < (B ++ (zH ++ [(0 : Int)])).length := by rw [List.length_append, List.length_append, lB, lH.out]; simp; omega
        have c7 := hk7.cell E1 l7
        have f7 := hk7.free E1
        have hk8 := hk7.set E1 188
        rw [show E1 = E - 1 by omega, enc_last B zH lB lH.out hnE, show E - 1 = E1 by omega] at hk8
        have hb8 := hb7.setCell (p := ⟨G, E1, none⟩) hGw (.int .u8 188)
        have fin : Hid (B ++ (zH ++ [188]) = encOf h d s b) := Lib.hid (by
          rw [HB.out, EH.out]; unfold encOf
          rw [← HZ.out, ← HE.out, show E - z - 1 = n by omega])
        have l9 : (B ++ (zH ++ [(188 : Int)])).length = E := by rw [List.length_append, List.length_append, lB, lH.out]; simp; omega
        have hnew := New.of_blk hk8 hGw E E (Nat.le_refl _) (by omega) (by omega)
        rw [List.take_of_length_le (by omega), fin.out] at hnew
        clear hk6' sH6' hb6' hk7 hg7 hb7 l7 hk8 l9
        go_wp2_with fail
        go_ret2
        exact ⟨_, by rw [ec.out]; first | done | rfl, by rw [er.out]; exact hnew, hb8⟩
      · have nofit : Hid (¬ encFits h d s b) := Lib.hid (by
          unfold encFits; rw [← HZ.out, ← HE.out]; exact hf)
        have er : Hid (eres h d s (b : Int) = []) := Lib.hid (by unfold eres; rw [if_neg fun e => nofit.out (by have := e.2.2; rwa [Int.toNat_natCast] at this)])
        have ec : Hid (ecode h d s (b : Int) = 90) := Lib.hid (by unfold ecode; rw [if_pos hh, if_pos hn, if_neg fun e => nofit.out (by rwa [Int.toNat_natCast] at e)])
        by_cases hdz : d.length = z
        · have g1 : ((d.length : Int) != (z : Int)) = false := by simp [hdz]
          have g2 : decide ((E : Int) - (z : Int) - 2 < (s.length : Int)) = true := decide_eq_true (by omega)
          have g3 : (E : Int) - (z : Int) - 2 < (s.length : Int) := by omega
          clear hn hf
          go_enter Tryd.func38, Tryd.ntmps38
          go_wp2_with fail
          refine sz.mono ?_; rintro e w' ⟨rfl, rfl⟩
          go_wp2_with fail
          go_ret2
          exact ⟨_, by rw [ec.out]; first | done | rfl, by rw [er.out]; exact .nil _ _ _ _, .refl _ _⟩
        · have g1 : ((d.length : Int) != (z : Int)) = true := by simp; omega
          clear hn hf
          go_enter Tryd.func38, Tryd.ntmps38
          go_wp2_with fail
          refine sz.mono ?_; rintro e w' ⟨rfl, rfl⟩
          go_wp2_with fail
          go_ret2
          exact ⟨_, by rw [ec.out]; first | done | rfl, by rw [er.out]; exact .nil _ _ _ _, .refl _ _⟩
    · have er : Hid (eres h d s bits' = []) := Lib.hid (by unfold eres; rw [if_neg fun e => hn e.2.1])
      have ec : Hid (ecode h d s bits' = 10) := Lib.hid (by unfold ecode; rw [if_pos hh, if_neg hn])
      by_cases q : bits' < 0
      · have d0 : decide (bits' < 0) = true := decide_eq_true q
        go_enter Tryd.func38, Tryd.ntmps38
        go_wp2_with fail
        refine sz.mono ?_; rintro e w' ⟨rfl, rfl⟩
        go_wp2_with fail
        go_ret2
        exact ⟨_, by rw [ec.out]; first | done | rfl, by rw [er.out]; exact .nil _ _ _ _, .refl _ _⟩
      · have d0 : decide (bits' < 0) = false := decide_eq_false q
        have d1 : decide ((65536 : Int) < bits') = true := decide_eq_true (by omega)
        clear hn
        go_enter Tryd.func38, Tryd.ntmps38
        go_wp2_with fail
        refine sz.mono ?_; rintro e w' ⟨rfl, rfl⟩
        go_wp2_with fail
        go_ret2
        exact ⟨_, by rw [ec.out]; first | done | rfl, by rw [er.out]; exact .nil _ _ _ _, .refl _ _⟩
  · rw [shaSize_no hh] at sz
    have er : Hid (eres h d s bits' = []) := Lib.hid (by unfold eres; rw [if_neg fun e => hh e.1])
    have ec : Hid (ecode h d s bits' = 111) := Lib.hid (by unfold ecode; rw [if_neg hh])
    go_enter Tryd.func38, Tryd.ntmps38
    go_wp2_with fail
    refine sz.mono ?_; rintro e w' ⟨rfl, rfl⟩
    go_wp2_with fail
    go_ret2
    exact ⟨_, by rw [ec.out]; first | done | rfl, by rw [er.out]; exact .nil _ _ _ _, .refl _ _⟩
end Go.Proofs.YtbmdifeanocahaaDoor
/- What an encoding holds, in plain words. No program in sight. -/
set_option linter.unusedVariables false
set_option linter.unusedSimpArgs false
namespace Go.Sg
open Go.RowKit
set_option maxRecDepth 100000 in
theorem mask_foo : maskOf 1 [102, 111, 111] 3 = [59, 218, 186] := by decide +kernel
theorem xl_xl {ys M : List Int} (i : Nat) (hi : i < ys.length) (hm : i < M.length) (u : U8 ys) : bx (nth (xl ys M) i) (nth M i) = nth ys i := by
  rw [xl_in _ _ _ hi hm]
  exact (bx_back (bx_u8 _ _) (u i)).1 rfl
theorem blk_nth (h : Int) (digest salt : List Int) (b n i : Nat) (hp : 0 < i) : nth (encBlk h digest salt b n) i = nth (xl (encDb n salt) (maskOf h (encSum h digest salt) n)) i := topped_nth _ _ _ hp
/-- What unmasking an encoding gives, behind its first byte. -/
theorem undone_enc {h : Int} (hh : IsHash h) (digest salt : List Int) (b n : Nat) (hn : salt.length + 1 ≤ n) (us : U8 salt) (i : Nat) (hp : 0 < i) (hi : i < n) :
    nth (undone h (encBlk h digest salt b n ++ (encSum h digest salt ++ [188])) n) i = nth (encDb n salt) i := by
  have lB : (encBlk h digest salt b n).length = n := encBlk_len hn
  have lD : (encDb n salt).length = n := encDb_len hn
  have lM : (maskOf h (encSum h digest salt) n).length = n := maskOf_len hh _ _
  unfold undone
  rw [List.take_left' lB, List.drop_left' lB, List.take_left' (encSum_len _ _ _), xl_in _ _ _ (by omega) (by omega), blk_nth _ _ _ _ _ _ hp]
  exact xl_xl i (by omega) (by omega) (encDb_u8 us)
theorem undone_len {h : Int} (em : List Int) (n : Nat) (hl : n ≤ em.length) : (undone h em n).length = n := by
  unfold undone; rw [xl_len, List.length_take]; omega
theorem salt_back {h : Int} (hh : IsHash h) (digest salt : List Int) (b n : Nat) (hs : salt.length = shaSize h) (hn : shaSize h + 1 ≤ n) (us : U8 salt) : saltOf h (encBlk h digest salt b n ++ (encSum h digest salt ++ [188])) n = salt := by
  have lB : (encBlk h digest salt b n).length = n := encBlk_len (by omega)
  unfold saltOf
  have lU : (undone h (encBlk h digest salt b n ++ (encSum h digest salt ++ [188])) n).length = n := undone_len _ _ (by rw [List.length_append, lB]; omega)
  refine ext_nth _ _ (by rw [List.length_drop, lU]; omega) fun j hj => ?_
  rw [List.length_drop, lU] at hj
  rw [nth_drop, undone_enc hh _ _ _ _ (by omega) us _ (by omega) (by omega), show n - shaSize h + j = n - salt.length - 1 + (j + 1) by omega]
  exact encDb_hi j
theorem holds_enc {h : Int} (hh : IsHash h) (digest salt : List Int) (b : Nat) (hb : b ≤ 65536) (hf : encFits h digest salt b) (hs : salt.length = shaSize h) (us : U8 salt) : holdsOf h digest (encOf h digest salt b) (b : Int) := by
  have h2 := hf.2
  refine ⟨hh, ⟨by omega, by omega⟩, hf.1, ?_, ?_, ?_⟩
  · rw [Int.toNat_natCast]; exact encOf_len hf
  · rw [Int.toNat_natCast]; omega
  · rw [Int.toNat_natCast]
    unfold holdsAt
    unfold encOf
    rw [salt_back hh _ _ _ _ hs (by omega) us]
/-- What is encoded with a salt of the hash's length holds for another digest only if the two have one second sum. -/
theorem holds_clash {h : Int} (hh : IsHash h) (digest digest2 salt : List Int) (b : Nat) (hf : encFits h digest salt b) (hs : salt.length = shaSize h) (us : U8 salt) (k : holdsOf h digest2 (encOf h digest salt b) (b : Int)) : encSum h digest salt = encSum h digest2 salt := by
  have h2 := hf.2
  have k2 := k.2.2.2.2.2
  rw [Int.toNat_natCast] at k2
  unfold holdsAt encOf at k2
  rw [salt_back hh _ _ _ _ hs (by omega) us] at k2
  have e1 := (List.append_inj k2 (by rw [encBlk_len (by omega), encBlk_len (by omega)])).2
  exact (List.append_inj e1 (by rw [encSum_len, encSum_len])).1
/-- A noughts' byte that is turned: it holds no more. -/
theorem bump_not {h : Int} (hh : IsHash h) (digest salt : List Int) (b n i : Nat) (v : Int) (hs : salt.length = shaSize h) (hn : shaSize h + 1 ≤ n) (us : U8 salt) (hp : 0 < i) (hi : i < n - shaSize h - 1) (hv : 0 ≤ v ∧ v ≤ 255)
    (hne : v ≠ nth (encBlk h digest salt b n ++ (encSum h digest salt ++ [188])) i) : ¬ holdsAt h digest ((encBlk h digest salt b n ++ (encSum h digest salt ++ [188])).set i v) b n := by
  have lB : (encBlk h digest salt b n).length = n := encBlk_len (by omega)
  have lH : (encSum h digest salt).length = shaSize h := encSum_len _ _ _
  have lM : (maskOf h (encSum h digest salt) n).length = n := maskOf_len hh _ _
  have eS : (encBlk h digest salt b n ++ (encSum h digest salt ++ [188])).set i v = (encBlk h digest salt b n).set i v ++ (encSum h digest salt ++ [188]) := List.set_append_left _ _ (by omega)
  have lB2 : ((encBlk h digest salt b n).set i v).length = n := by rw [List.length_set]; exact lB
  have eN : nth (encBlk h digest salt b n ++ (encSum h digest salt ++ [188])) i = nth (maskOf h (encSum h digest salt) n) i := by
    rw [nth_append_left _ _ _ (by omega), blk_nth _ _ _ _ _ _ hp, xl_in _ _ _ (by rw [encDb_len (by omega)]; omega) (by omega), encDb_lo i (by omega), bx_zero_left (maskOf_u8 _ _ _ _)]
  rw [eS]
  intro k
  have k3 := ((holds_iff hh digest _ b n (by omega) (by rw [List.length_append, lB2, List.length_append, lH]; simp; omega) (((InR.set (encBlk_u8 us) i hv.1 hv.2)).append (by omega) ((encSum_u8 _ _ _).append (by omega) (.of_mem (by omega) (by simp))))).1 k).2.2.1 i hi
  rw [topped_nth _ _ _ hp] at k3
  unfold undone at k3
  rw [List.take_left' lB2, List.drop_left' lB2, List.take_left' lH, xl_in _ _ _ (by omega) (by omega), nth_set _ _ _ _ (by omega), if_pos rfl] at k3
  refine hne ?_
  rw [eN, (bx_back hv (by omega)).2 k3, bx_zero_left (maskOf_u8 _ _ _ _)]
/-- The first byte of an encoding has no more bits than it may. -/
theorem enc_first (h : Int) (digest salt : List Int) (b n : Nat) (tl : List Int) (hn : salt.length + 1 ≤ n) (hr : ¬ b % 8 = 0) : 0 ≤ nth (encBlk h digest salt b n ++ tl) 0 ∧ nth (encBlk h digest salt b n ++ tl) 0 < 2 ^ (b % 8) := by
  have lB : (encBlk h digest salt b n).length = n := encBlk_len hn
  rw [nth_append_left _ _ _ (by omega)]
  unfold encBlk
  rw [topped_nth0 _ _ (by rw [xl_len, encDb_len hn]; omega)]
  obtain ⟨x, hx⟩ : ∃ x, x = nth (xl (encDb n salt) (maskOf h (encSum h digest salt) n)) 0 := ⟨_, rfl⟩
  rw [← hx, and_eq]
  refine ⟨Int.natCast_nonneg _, ?_⟩
  have hle : (BitVec.ofInt 8 x &&& BitVec.ofInt 8 (topB b)).toNat ≤ (BitVec.ofInt 8 (topB b)).toNat := by rw [BitVec.toNat_and]; exact Nat.and_le_right
  have ht := ofInt_back (topB_u8 b)
  have hb : topB b < 2 ^ (b % 8) := by
    unfold topB
    have h8 : b % 8 < 8 := Nat.mod_lt _ (by omega)
    obtain ⟨r, hr2⟩ : ∃ r, r = b % 8 := ⟨_, rfl⟩
    rw [← hr2] at h8 hr ⊢
    match r, h8, hr with
    | 0, _, hr => exact absurd rfl hr
    | 1, _, _ => decide
    | 2, _, _ => decide
    | 3, _, _ => decide
    | 4, _, _ => decide
    | 5, _, _ => decide
    | 6, _, _ => decide
    | 7, _, _ => decide
  omega
end Go.Sg
