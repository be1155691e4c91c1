/- pss.mask, Mask, signetref10.mask, Mask, by their contracts. -/
import Derived.Test.YtponfoijmmegmaaDoorPssA
import Derived.Test.YtponfoijmmegmaaDoorMaskN
set_option linter.unusedVariables false
set_option linter.unusedSimpArgs false
namespace Go.Sg
open Go.RowKit
theorem bx_zero_left {x : Int} (hx : 0 ≤ x ∧ x ≤ 255) : bx 0 x = x := by
  rw [bx_eq, show BitVec.ofInt 8 0 = 0#8 from rfl, BitVec.zero_xor]
  exact ofInt8_toNat hx
theorem Blk.pre {w : World} {g : Nat} {k : IntKind} {E : TypeId} {xs : List Int} (h : Blk w g k E xs) (hm : xs.length ≤ 9223372036854775807) : Pre w g k E xs.length xs :=
  ⟨_, h, by simp, by simp, hm, List.take_of_length_le (by simp)⟩
/-- A way to hold a row of bytes at g, whole or the head of a greater one. -/
structure IsR (g : Nat) (R : World → List Int → Prop) : Prop where
  cell : ∀ {W : World} {L : List Int}, R W L → ∀ i, i < L.length → W.cell? ⟨g, i, none⟩ = some (.int .u8 (nth L i))
  free : ∀ {W : World} {L : List Int}, R W L → ∀ i, W.frozen? ⟨g, i, none⟩ = false
  set : ∀ {W : World} {L : List Int}, R W L → ∀ i x, R (W.setCell ⟨g, i, none⟩ (.int .u8 x)) (L.set i x)
  below : ∀ {W W' : World} {L : List Int}, R W L → Below W.heap.size W W' → R W' L
  alloc : ∀ {W : World} {L : List Int}, R W L → ∀ o, R (W.alloc o) L
  drew : ∀ {W : World} {L : List Int}, R W L → R W.drew L
  lt : ∀ {W : World} {L : List Int}, R W L → g < W.heap.size
theorem isR_blk (g : Nat) (E : TypeId) : IsR g (fun W L => Blk W g .u8 E L) :=
  ⟨fun h => h.cell, fun h => h.free, fun h => h.set, fun h hb => h.below hb h.lt, fun h => h.alloc, fun h => h, fun h => h.lt⟩
theorem isR_pre (g C : Nat) (E : TypeId) : IsR g (fun W L => Pre W g .u8 E C L) :=
  ⟨fun h => h.cell, fun h => h.free, fun h => h.set, fun h hb => h.below hb h.lt, fun h => h.alloc, fun h => h, fun h => h.lt⟩
/-- A mask laid over bytes; where it ends, they stay. -/
def xl : List Int → List Int → List Int
  | [], _ => []
  | y :: ys, [] => y :: ys
  | y :: ys, m :: ms => bx y m :: xl ys ms
theorem xl_nil_right (ys : List Int) : xl ys [] = ys := by cases ys <;> rfl
theorem xl_len (ys M : List Int) : (xl ys M).length = ys.length := by
  induction ys generalizing M with
  | nil => rfl
  | cons y ys ih => cases M with
    | nil => rfl
    | cons m M => simp [xl, ih]
theorem xl_in (ys M : List Int) (i : Nat) (h1 : i < ys.length) (h2 : i < M.length) : nth (xl ys M) i = bx (nth ys i) (nth M i) := by
  induction ys generalizing M i with
  | nil => simp at h1
  | cons y ys ih => cases M with
    | nil => simp at h2
    | cons m M => cases i with
      | zero => rfl
      | succ i => exact ih M i (by simpa using h1) (by simpa using h2)
theorem xl_out (ys M : List Int) (i : Nat) (h2 : M.length ≤ i) : nth (xl ys M) i = nth ys i := by
  induction ys generalizing M i with
  | nil => rfl
  | cons y ys ih => cases M with
    | nil => rfl
    | cons m M => cases i with
      | zero => simp at h2
      | succ i => exact ih M i (by simpa using h2)
theorem xl_take (ys M : List Int) (n : Nat) (hn : ys.length ≤ n) : xl ys (M.take n) = xl ys M := by
  induction ys generalizing M n with
  | nil => rfl
  | cons y ys ih => cases M with
    | nil => simp
    | cons m M => cases n with
      | zero => simp at hn
      | succ n => simp [xl, ih M n (by simpa using hn)]
theorem xl_congr (ys M M' : List Int) (h : M.take ys.length = M'.take ys.length) : xl ys M = xl ys M' := by
  rw [← xl_take ys M _ (Nat.le_refl _), h, xl_take ys M' _ (Nat.le_refl _)]
theorem xl_set (ys A M : List Int) (i j : Nat) (hA : A.length = j) (hM : i < M.length) (hy : j + i < ys.length) :
    (xl ys (A ++ M.take i)).set (j + i) (bx (nth ys (j + i)) (nth M i)) = xl ys (A ++ M.take (i + 1)) := by
  subst hA
  have l1 : (A ++ M.take i).length = A.length + i := by rw [List.length_append, List.length_take, Nat.min_eq_left (by omega)]
  have l2 : (A ++ M.take (i + 1)).length = A.length + (i + 1) := by rw [List.length_append, List.length_take, Nat.min_eq_left (by omega)]
  have e2 : A ++ M.take (i + 1) = (A ++ M.take i) ++ [nth M i] := by rw [take_succ_nth M i hM, List.append_assoc]
  refine ext_nth _ _ (by rw [List.length_set, xl_len, xl_len]) fun q hq => ?_
  rw [List.length_set, xl_len] at hq
  rw [nth_set _ _ _ _ (by rw [xl_len]; exact hy)]
  by_cases h1 : A.length + i = q
  · subst h1
    rw [if_pos rfl, xl_in _ _ _ hy (by rw [l2]; omega), e2, ← l1]
    have := nth_append_right (A ++ M.take i) [nth M i] 0
    rw [Nat.add_zero] at this
    rw [this]; rfl
  · rw [if_neg h1]
    by_cases h2 : q < A.length + i
    · rw [xl_in _ _ _ hq (by rw [l1]; exact h2), xl_in _ _ _ hq (by rw [l2]; omega), e2, nth_append_left (A ++ M.take i) _ q (by rw [l1]; exact h2)]
    · rw [xl_out _ _ _ (by rw [l1]; omega), xl_out _ _ _ (by rw [l2]; omega)]
theorem xl_cell (ys A M : List Int) (i j : Nat) (hA : A.length = j) (hM : i < M.length) : nth (xl ys (A ++ M.take i)) (j + i) = nth ys (j + i) :=
  xl_out _ _ _ (by rw [List.length_append, List.length_take, hA, Nat.min_eq_left (by omega)]; exact Nat.le_refl _)
theorem bx_u8 (x y : Int) : 0 ≤ bx x y ∧ bx x y ≤ 255 := by rw [bx_eq]; omega
theorem xl_u8 {ys M : List Int} (h : U8 ys) : U8 (xl ys M) := by
  intro i
  by_cases h1 : i < ys.length ∧ i < M.length
  · rw [xl_in _ _ _ h1.1 h1.2]; exact bx_u8 _ _
  · by_cases h2 : i < ys.length
    · rw [xl_out _ _ _ (by omega)]; exact h i
    · rw [nth_out _ _ (by rw [xl_len]; omega)]; omega
theorem xl_zero {n : Nat} {M : List Int} (hl : M.length = n) (hu : U8 M) : xl (List.replicate n 0) M = M := by
  refine ext_nth _ _ (by rw [xl_len, List.length_replicate, hl]) fun i hi => ?_
  rw [xl_len, List.length_replicate] at hi
  rw [xl_in _ _ _ (by rw [List.length_replicate]; exact hi) (by omega), nth_replicate0, bx_zero_left (hu i)]
theorem mgf_next (h : Int) (seed ys : List Int) (c k : Nat) (hk : k = min (shaSize h) (ys.length - c * shaSize h)) (hc : c * shaSize h ≤ ys.length) :
    xl ys (mgf h seed c ++ (sha h (seed ++ ctr c)).take k) = xl ys (mgf h seed (c + 1)) := by
  refine xl_congr _ _ _ ?_
  rw [mgf]
  rcases Nat.le_total (shaSize h) (ys.length - c * shaSize h) with hle | hle
  · rw [hk, Nat.min_eq_left hle, List.take_of_length_le (l := sha h (seed ++ ctr c)) (by rw [sha_len]; exact Nat.le_refl _)]
  · rw [hk, Nat.min_eq_right hle, List.take_append, List.take_append, mgf_len, List.take_take, Nat.min_self]
theorem mgf_end {h : Int} (hh : IsHash h) (seed ys : List Int) (c : Nat) (hc : ys.length ≤ c * shaSize h) : xl ys (mgf h seed c) = xl ys (maskOf h seed ys.length) := by
  refine xl_congr _ _ _ ?_
  rw [maskOf_eq hh seed c _ hc, List.take_of_length_le (by rw [maskOf_len hh]; exact Nat.le_refl _)]
end Go.Sg
namespace Go.Proofs.YtponfoijmmegmaaDoor
open Go.RowKit Go.Sg

set_option maxHeartbeats 8000000 in
set_option maxRecDepth 20000 in
theorem pmask_c (h : Int) (hh : IsHash h) (a : Option Addr) (cap : Nat) (seed ys tl : List Int) (g n K : Nat) (w : World) (hx : Sl .u8 w a cap seed) (ux : U8 seed) (hyl : ys.length = n) (R : World → List Int → Prop) (hR : IsR g R) (hk : R w (ys ++ tl)) (hn : n ≤ 65536) (hK : n ≤ K) (hl : seed.length ≤ 1048576)
    (hap : ∀ b off, a = some ⟨b, off, none⟩ → 0 < seed.length → b ≠ g) (hg : shaTop ≤ g) (ht : ShaTabs w) :
    Calls Tryd.prog 30 #[.int .i64 h, .slice a seed.length cap, .slice (some ⟨g, 0, none⟩) n K] w fun e w' => e = .returned (.tuple #[]) ∧ R w' (xl ys (maskOf h seed n) ++ tl) ∧ w.grownBy w' (some g) := by
  obtain ⟨Z, hZ⟩ : ∃ Z, Z = shaSize h := ⟨_, rfl⟩
  have z0 : 0 < Z := by rw [hZ]; exact hh.size_le.2.1
  have z64 : Z ≤ 64 := by rw [hZ]; exact shaSize_le h
  have HZ := Lib.hid hZ
  have HY := Lib.hid hyl
  have hk0 : R w (xl ys (mgf h seed 0) ++ tl) := by
    rw [mgf, xl_nil_right]; exact hk
  clear hZ hk hyl
  go_enter Tryd.func30, Tryd.ntmps30
  go_wp2_with fail
  go_loopw [2, 6] (fun o t wr => ∃ (c j : Nat) (ad : Option Addr), t = .int .u32 (c : Int) ∧ j = min (c * Z) n ∧ c ≤ n ∧ o = .slice ad (n - j) (K - j) ∧ (j < n → ad = some ⟨g, j, none⟩) ∧ R wr (xl ys (mgf h seed c) ++ tl) ∧ w.grownBy wr (some g))
    (fun o _ _ => match o with | .slice _ m _ => m | _ => 0)
  case atStart => exact ⟨0, 0, some ⟨g, 0, none⟩, rfl, by simp, by omega, rfl, fun _ => rfl, hk0, rfl, rfl, rfl, Nat.le_refl _, fun _ _ _ => rfl⟩
  case round =>
    clear hk0
    obtain ⟨c, j, ad, rfl, hj, hc, rfl, had, hkb, hgr⟩ := hrel
    obtain ⟨m, hm⟩ : ∃ m, m = n - j := ⟨_, rfl⟩
    obtain ⟨Kj, hKj⟩ : ∃ m, m = K - j := ⟨_, rfl⟩
    rw [← hm, ← hKj]
    have jn : j ≤ n := by omega
    have HM := Lib.hid hm
    have HJ := Lib.hid hj
    have mb : m ≤ 65536 := by omega
    have mK : m ≤ Kj := by omega
    have HKJ := Lib.hid hKj
    clear hm hj hKj
    by_cases hlt : j < n
    · obtain rfl := had hlt
      have mp : 0 < m := by have := HM.out; omega
      have mp' : (0 : Int) < (m : Int) := by omega
      have jc : Hid (j = c * Z) := Lib.hid (by have := HJ.out; omega)
      have hcn : c < n := by
        have h1 := jc.out
        have h2 : c ≤ c * Z := Nat.le_mul_of_pos_right c z0
        omega
      have hxr := hx.grown' hgr (fun b off ha hp e => hap b off ha hp (Option.some.inj e))
      have htr := ht.grown hgr hg
      obtain ⟨x0, hx0⟩ : ∃ x, x = c / 16777216 % 256 := ⟨_, rfl⟩
      obtain ⟨x1, hx1⟩ : ∃ x, x = c / 65536 % 256 := ⟨_, rfl⟩
      obtain ⟨x2, hx2⟩ : ∃ x, x = c / 256 % 256 := ⟨_, rfl⟩
      obtain ⟨x3, hx3⟩ : ∃ x, x = c % 256 := ⟨_, rfl⟩
      have a0 : IntKind.u8.wrap ((c : Int) / 16777216) = (x0 : Int) := by rw [IntKind.wrap_u8', hx0]; omega
      have a1 : IntKind.u8.wrap ((c : Int) / 65536) = (x1 : Int) := by rw [IntKind.wrap_u8', hx1]; omega
      have a2 : IntKind.u8.wrap ((c : Int) / 256) = (x2 : Int) := by rw [IntKind.wrap_u8', hx2]; omega
      have a3 : IntKind.u8.wrap (c : Int) = (x3 : Int) := by rw [IntKind.wrap_u8', hx3]; omega
      have b0 : (c : Int) / 16777216 % 256 = (x0 : Int) := by rw [hx0]; omega
      have b1 : (c : Int) / 65536 % 256 = (x1 : Int) := by rw [hx1]; omega
      have b2 : (c : Int) / 256 % 256 = (x2 : Int) := by rw [hx2]; omega
      have b3 : (c : Int) % 256 = (x3 : Int) := by rw [hx3]; omega
      have ec : ctr c = [(x0 : Int), (x1 : Int), (x2 : Int), (x3 : Int)] := by rw [hx0, hx1, hx2, hx3]; rfl
      have kb : Sl .u8 (wr.alloc (.cells #[.int .u8 (x0 : Int), .int .u8 (x1 : Int), .int .u8 (x2 : Int), .int .u8 (x3 : Int)] 5)) (some ⟨wr.heap.size, 0, none⟩) 4 (ctr c) := by
        rw [ec]; exact ⟨Nat.le_refl _, by simp, (cells_new .u8 wr 5 [(x0 : Int), (x1 : Int), (x2 : Int), (x3 : Int)] _ rfl _ rfl).cells⟩
      have al := (Below.refl wr.heap.size wr).alloc (Nat.le_refl _) (.cells #[.int .u8 (x0 : Int), .int .u8 (x1 : Int), .int .u8 (x2 : Int), .int .u8 (x3 : Int)] 5)
      have cs := Sum2_c h a (some ⟨wr.heap.size, 0, none⟩) cap 4 seed (ctr c) _ (hxr.below al) kb ux (ctr_u8 c) (by rw [ec]; simp; omega) (htr.below al)
      have es : (wr.alloc (.cells #[.int .u8 (x0 : Int), .int .u8 (x1 : Int), .int .u8 (x2 : Int), .int .u8 (x3 : Int)] 5)).heap.size = wr.heap.size + 1 := by simp
      have el : (ctr c).length = 4 := rfl
      rw [es, el] at cs
      have hk2 := hR.alloc hkb (.cells #[.int .u8 (x0 : Int), .int .u8 (x1 : Int), .int .u8 (x2 : Int), .int .u8 (x3 : Int)] 5)
      have hg2 := only_alloc hgr (.cells #[.int .u8 (x0 : Int), .int .u8 (x1 : Int), .int .u8 (x2 : Int), .int .u8 (x3 : Int)] 5)
      have hgl := hR.lt hkb
      clear hx0 hx1 hx2 hx3 ec kb el had hkb hgr al hxr htr
      go_wp2_with fail
      refine cs.mono ?_; rintro e w2 ⟨vM, rfl, nM, hbM⟩
      obtain ⟨aM, cM, rfl, sM⟩ := nM.sl
      have apM : ∀ b off, aM = some ⟨b, off, none⟩ → 0 < (sha h (seed ++ ctr c)).length → b ≠ g := fun b off hb _ e => by
        have := nM.far b off hb
        rw [es] at this
        omega
      obtain ⟨zM, hzM⟩ : ∃ z, z = sha h (seed ++ ctr c) := ⟨_, rfl⟩
      rw [← hzM] at sM apM ⊢
      have uM : U8 zM := by rw [hzM]; exact sha_u8 _ _
      have lM : Hid (zM.length = Z) := Lib.hid (by rw [hzM, sha_len, HZ.out])
      have eM := Lib.hid hzM
      rw [lM.out]
      have hk3 := hR.below hk2 hbM
      have hg3 := only_below hg2 hbM
      obtain ⟨k, hkk⟩ : ∃ k, k = min Z m := ⟨_, rfl⟩
      have k1 : k ≤ Z := by omega
      have k2 : k ≤ m := by omega
      have kp : 0 < k := by omega
      have rowE : Hid (xl ys (mgf h seed c ++ zM.take k) = xl ys (mgf h seed (c + 1))) := Lib.hid (by
        rw [eM.out]
        exact mgf_next h seed ys c k (by rw [hkk, HM.out, jc.out, HZ.out, HY.out]) (by have := jc.out; have := HZ.out; have := HY.out; subst this; subst Z; omega))
      have mg : Hid ((mgf h seed c).length = j) := Lib.hid (by rw [mgf_len, jc.out, HZ.out])
      have hk4 : R w2 (xl ys (mgf h seed c ++ zM.take 0) ++ tl) := by simpa using hk3
      have KK := Lib.hid hkk
      have mi : min (Z : Int) (m : Int) = (k : Int) := by rw [hkk]; omega
      have mi2 : (if (m : Int) < (Z : Int) then (m : Int) else (Z : Int)) = (k : Int) := by rw [hkk]; split <;> omega
      have mi4 : (if m < Z then (m : Int) else (Z : Int)) = (k : Int) := by rw [hkk]; split <;> omega
      have mi3 : (if (Z : Int) ≤ (m : Int) then (Z : Int) else (m : Int)) = (k : Int) := by rw [hkk]; split <;> omega
      clear nM hzM hk2 hg2 hk3 hbM cs hkk
      go_wp2_with fail
      go_loopw [35] (fun t wr => ∃ i : Nat, i ≤ k ∧ t = .int .i64 (i : Int) ∧ R wr (xl ys (mgf h seed c ++ zM.take i) ++ tl) ∧ Sl .u8 wr aM cM zM ∧ w.grownBy wr (some g)) (fun t _ => k - (intOf t).toNat)
      case atStart => exact ⟨0, by omega, rfl, hk4, sM, hg3⟩
      case round =>
        clear hk4 sM hg3
        obtain ⟨i, hi, rfl, hkb, sM, hgr⟩ := hrel
        by_cases hlk : i < k
        · have ll : (xl ys (mgf h seed c ++ zM.take i)).length = n := by rw [xl_len, HY.out]
          have c0 := hR.cell hkb (j + i) (by rw [List.length_append, ll]; have := HM.out; omega)
          rw [nth_append_left _ _ _ (by rw [ll]; have := HM.out; omega), xl_cell ys (mgf h seed c) zM i j mg.out (by rw [lM.out]; omega)] at c0
          have f0 := hR.free hkb (j + i)
          obtain ⟨b, off, eaa, hcc⟩ := sM.cells (by rw [lM.out]; omega)
          subst eaa
          have c1 := hcc i (by rw [lM.out]; omega)
          obtain ⟨x, hx⟩ : ∃ x, x = nth zM i := ⟨_, rfl⟩
          obtain ⟨y, hy⟩ : ∃ y, y = nth ys (j + i) := ⟨_, rfl⟩
          obtain ⟨z, hz⟩ : ∃ z, z = bx y x := ⟨_, rfl⟩
          have hs := hR.set hkb (j + i) (bx (nth ys (j + i)) (nth zM i))
          rw [List.set_append_left _ _ (by rw [ll]; have := HM.out; omega), xl_set ys (mgf h seed c) zM i j mg.out (by rw [lM.out]; omega) (by rw [HY.out]; have := HM.out; omega), ← hx, ← hy, ← hz] at hs
          have sM2 := (sM.grown' (grownBy_set wr ⟨g, j + i, none⟩ (.int .u8 z)) (fun b' off' ha hp e => apM b' off' ha hp (Option.some.inj e))).drewN 1
          have hg2 := only_drew (only_setCell (p := ⟨g, j + i, none⟩) hgr (.inl rfl) (.int .u8 z))
          rw [← hx] at c1
          rw [← hy] at c0
          have hxo : bits .xor .u8 y x = z := hz.symm
          have hin : (i : Int) < (m : Int) := by omega
          have hinz : (i : Int) < (Z : Int) := by omega
          have hinz' : i < Z := by omega
          have him : i < m := by omega
          have hik : (i : Int) < (k : Int) := by omega
          have hd1 : decide ((i : Int) < (k : Int)) = true := decide_eq_true hik
          have hs2 : R (wr.setCell ⟨g, j + i, none⟩ (.int .u8 z)).drew (xl ys (mgf h seed c ++ zM.take (i + 1)) ++ tl) := hR.drew hs
          clear hcc hx hy hz hkb sM hgr ll hs
          go_wp2_with fail
          go_still_tail 10, (by kernel_rfl)
          change wpList _ _ _ _ _ wr.drew
          go_wp2_with fail
          go_roundw
          case rel => exact ⟨i + 1, by omega, by go_num, hs2, sM2, hg2⟩
          case measure => simp [intOf]; omega
        · obtain rfl : k = i := by omega
          have hik : ¬ (k : Int) < (k : Int) := by omega
          have hd1 : decide ((k : Int) < (k : Int)) = false := by simp
          rw [rowE.out] at hkb
          have hcut := fun W => cut_l (P := Tryd.prog) W 23 5 Tryd.underlying23 size8 (some ⟨g, j, none⟩) m Kj k k2 (k : Int) rfl
          obtain ⟨a2, ha2⟩ : ∃ x, x = (if Kj = k then (some ⟨g, j, none⟩ : Option Addr) else (some ⟨g, j, none⟩ : Option Addr).map (·.add k)) := ⟨_, rfl⟩
          obtain ⟨m2, hm2⟩ : ∃ x, x = m - k := ⟨_, rfl⟩
          obtain ⟨K2, hK2⟩ : ∃ x, x = Kj - k := ⟨_, rfl⟩
          rw [← ha2, ← hm2, ← hK2] at hcut
          have had2 : j + k < n → a2 = some ⟨g, j + k, none⟩ := fun hjk => by
            rw [ha2, if_neg (by have := HM.out; omega), Option.map_some, Addr.add_mid]
          have HM2 := Lib.hid hm2
          have hj2 : Hid (j + k = min ((c + 1) * Z) n) := Lib.hid (by
            have h1 := jc.out
            have h2 := KK.out
            have h3 := HM.out
            rw [Nat.succ_mul]; omega)
          have hc1 : Hid (n - (j + k) = m2) := Lib.hid (by have := HM2.out; have := HM.out; omega)
          have hc2 : Hid (K - (j + k) = K2) := Lib.hid (by have := HKJ.out; omega)
          have hcb : (c : Int) + 1 ≤ 65536 := by omega
          clear ha2 hm2 hK2
          go_wp2_with fail
          go_roundw
          case rel => exact ⟨c + 1, j + k, a2, by go_num, hj2.out, by omega, by rw [hc1.out, hc2.out], had2, hkb, hgr⟩
          case measure => have := HM2.out; simp; omega
    · have jn2 : j = n := by omega
      have mz : m = 0 := by have := HM.out; omega
      subst mz
      have hfin : R wr (xl ys (maskOf h seed n) ++ tl) := by
        have e := mgf_end hh seed ys c (by rw [HY.out]; have := HJ.out; have := HZ.out; subst this; omega)
        rw [HY.out] at e
        rw [← e]; exact hkb
      clear had
      go_wp2_with fail
      go_end0
      exact ⟨rfl, hfin, hgr⟩
end Go.Proofs.YtponfoijmmegmaaDoor
