import Derived.Test.YtlolkighnnedfaaDoorZ30
import Derived.Test.YtlolkighnnedfaaDoorZ33
/- signetlaw13, outright: trim, little, bytes, challenge, by their contracts. -/
set_option linter.unusedVariables false
set_option linter.unusedSimpArgs false
namespace Go.Sg
open Go.RowKit
theorem rev_step {xs : List Int} {i : Nat} (h : i < xs.length) : (xs.drop (i + 1)).reverse ++ [nth xs i] = (xs.drop i).reverse := by
  rw [List.drop_eq_getElem_cons h, List.reverse_cons, nth_get xs i h]
end Go.Sg
namespace Go.Proofs.YtlolkighnnedfaaDoor
open Go.RowKit Go.Sg

set_option maxHeartbeats 2000000 in
theorem trim13_c (a : Option Addr) (cap : Nat) (zs : List Int) (w : World) (hc : Sl .u32 w a cap zs) (hl : zs.length ≤ 35184372088832) :
    Calls Tryd.prog 42 #[.slice a zs.length cap] w (fun e w' => e = .returned (.slice a (topz zs) cap) ∧ w' = w) := by
  have hle := hc.le
  have rt := fun W => run_to (P := Tryd.prog) W 27 36 Tryd.underlying27 size32r a zs.length cap (topz zs) (Nat.le_trans (topz_le zs) hle) (topz zs : Int) rfl
  obtain ⟨l, hl1⟩ : ∃ l, l = zs.length := ⟨_, rfl⟩
  have HL := Lib.hid hl1
  rw [← hl1] at hl hle rt ⊢
  clear hl1
  go_enter Tryd.func42, Tryd.ntmps42
  go_wp2_with fail
  go_loop [3] (fun t => ∃ k : Nat, k ≤ l ∧ t = .int .i64 (k : Int) ∧ topz (zs.take k) = topz zs) (fun t => (intOf t).toNat)
  case atStart => exact ⟨l, Nat.le_refl _, rfl, by rw [List.take_of_length_le (by rw [HL.out]; exact Nat.le_refl _)]⟩
  case round =>
    obtain ⟨k, hk, rfl, ht⟩ := hrel
    have HT := Lib.hid ht
    clear ht
    by_cases hk0 : k = 0
    · subst hk0
      have fin : topz zs = 0 := by rw [← HT.out]; rfl
      rw [fin] at rt
      rw [show ((0 : Nat) : Int) = 0 from rfl] at rt
      have FIN := Lib.hid fin
      clear fin
      go_wp2_with fail
      go_ret
      exact ⟨by rw [FIN.out]; rfl, rfl⟩
    · obtain ⟨j, rfl⟩ : ∃ j, k = j + 1 := ⟨k - 1, by omega⟩
      obtain ⟨b, off, rfl, hcc⟩ := hc.cells (by rw [← HL.out]; omega)
      have c1 := hcc j (by rw [← HL.out]; omega)
      have hpi : ((j + 1 : Nat) : Int) - 1 = (j : Int) := by omega
      have hd : decide ((0 : Int) < ((j + 1 : Nat) : Int)) = true := decide_eq_true (by omega)
      clear hcc
      by_cases h0 : nth zs j = 0
      · have g0 : (nth zs j == 0) = true := by simpa using h0
        have HD := Lib.hid (topz_down zs (j + 1) (by omega) (by rw [← HL.out]; exact hk) (by simpa using h0))
        clear h0
        go_wp2_with fail
        go_round
        case rel => exact ⟨j, by omega, by go_num, by have h := HD.out; rw [Nat.add_sub_cancel] at h; rw [← h]; exact HT.out⟩
        case measure => simp [intOf]
      · have g0 : (nth zs j == 0) = false := by simpa using h0
        have HD : topz zs = j + 1 := by rw [← HT.out]; exact topz_stop zs (j + 1) (by omega) (by rw [← HL.out]; exact hk) (by simpa using h0)
        rw [HD] at rt
        have FIN := Lib.hid HD
        clear h0 HD
        go_wp2_with fail
        go_ret
        exact ⟨by rw [FIN.out]; rfl, rfl⟩
theorem trim13_can {a : Option Addr} {cap : Nat} {zs : List Int} {w : World} (hc : Sl .u32 w a cap zs) (ux : U32 zs) (hl : zs.length ≤ 17592186044415) :
    Calls Tryd.prog 42 #[.slice a zs.length cap] w (fun e w' => ∃ v, e = .returned v ∧ CanAt w v (val zs) ∧ w' = w) :=
  (trim13_c a cap zs w hc (by omega)).mono fun e w' h => by
    obtain ⟨rfl, rfl⟩ := h
    have s := hc.take (topz zs)
    rw [show zs.take (topz zs) = norm zs from rfl] at s
    refine ⟨_, rfl, ⟨a, cap, norm zs, by rw [length_norm], s, Canon.norm zs, ux.norm, val_norm zs, by rw [length_norm]; exact Nat.le_trans (topz_le zs) hl⟩, rfl⟩

set_option maxHeartbeats 2000000 in
theorem little13_c (a : Option Addr) (cap : Nat) (xs : List Int) (w : World) (hx : Sl .u8 w a cap xs) (ux : U8 xs) (hl : xs.length ≤ 140737488350000) :
    Calls Tryd.prog 26 #[.slice a xs.length cap] w (NatPost (lnum xs) w) := by
  have ur : U8 xs.reverse := ux.reverse (by omega)
  have HR : Hid (xs.reverse.length = xs.length) := Lib.hid List.length_reverse
  go_enter Tryd.func26, Tryd.ntmps26
  go_wp2_with fail
  go_loopw [3, 4] (fun v t wr => ∃ i : Nat, i ≤ xs.length ∧ t = .int .i64 ((i : Int) - 1) ∧ New w.heap.size .u8 5 wr v (xs.drop i).reverse ∧ Below w.heap.size w wr)
    (fun _ t _ => (intOf t + 1).toNat)
  case atStart => exact ⟨xs.length, Nat.le_refl _, rfl, by rw [List.drop_length]; exact .nil _ _ _ _, .refl _ _⟩
  case round =>
    obtain ⟨i, hi, rfl, hv, hb⟩ := hrel
    have hbs := hb.size
    by_cases hi0 : i = 0
    · subst hi0
      rw [List.drop_zero] at hv
      obtain ⟨a1, c1, hv1, hs1⟩ := hv.sl
      rw [HR.out] at hv1
      subst hv1
      have fb := FromBytes_v a1 c1 (lnum xs) xs.reverse wr hs1 ur (by rw [HR.out]; omega) rfl
      rw [HR.out] at fb
      clear hv hs1
      go_wp2_with fail
      refine fb.mono ?_; rintro e_ w3 ⟨v3, rfl, hr, hb3⟩
      go_wp2_with fail
      go_ret
      exact ⟨_, rfl, hr.mono hbs, hb.trans (hb3.mono hbs)⟩
    · obtain ⟨j, rfl⟩ : ∃ j, i = j + 1 := ⟨i - 1, by omega⟩
      obtain ⟨b, off, rfl, hc⟩ := (hx.below hb).cells (by omega)
      have c0 := hc j (by omega)
      have hji : ((j + 1 : Nat) : Int) - 1 = (j : Int) := by omega
      rw [hji]
      have HJI := Lib.hid hji
      obtain ⟨L, hL1⟩ : ∃ L, L = (xs.drop (j + 1)).reverse := ⟨_, rfl⟩
      rw [← hL1] at hv
      have HL : Hid (L.length + j < xs.length) := Lib.hid (by rw [hL1, List.length_reverse, List.length_drop]; omega)
      have fin : Hid (L ++ [nth xs j] = (xs.drop j).reverse) := Lib.hid (by rw [hL1]; exact rev_step (by omega))
      have hjl : j < xs.length := by omega
      have hjl2 : (j : Int) < (xs.length : Int) := by omega
      have hj0 : (0 : Int) ≤ (j : Int) := by omega
      clear hc hL1 hi0 hji
      go_wp2_with (at_builtin; refine wpList_append_new _ rfl _ _ 22 rfl w.heap.size 5 .u8 1 Tryd.underlying22 info8a _ _ rfl (hv.alloc _) _ _ 1 [nth xs j] rfl rfl (cells_one _ _ _ _ _ rfl) (by have := HL.out; simp; omega) (by have := HL.out; simp; omega) (by simp; omega) ?_)
      intro v' w' hv' hg' _
      have hlt1 := fun g hg => (hv.lt g hg).1
      have hb' : Below w.heap.size w w' := (hb.alloc hbs _).grown hg' (by simp; omega) hlt1
      rw [fin.out] at hv'
      clear hv hg' hb
      go_wp2_with fail
      go_roundw
      case rel => exact ⟨j, by omega, rfl, hv', hb'⟩
      case measure => simp [intOf]

set_option maxHeartbeats 2000000 in
theorem bytes13_c {v : Value} {n : Nat} {w : World} (h : NumAt w v n) (hn : n < 256 ^ 32) :
    Calls Tryd.prog 47 #[v] w (fun e w' => ∃ v', e = .returned v' ∧ New w.heap.size .u8 5 w' v' (leB n) ∧ Below w.heap.size w w') := by
  have fx : Calls Tryd.prog 59 #[v, .int .i64 32] w fun e w' => ∃ v', e = .returned (.tuple #[v', .bool true]) ∧ New w.heap.size .u8 5 w' v' (beN n 32) ∧ Below w.heap.size w w' := by
    obtain ⟨a, c, zs, rfl, s, u, hv, hl⟩ := h
    have h1 := Fixed_c _ _ zs 32 w s u (by omega) ⟨by omega, by omega⟩
    have hf : fitB (val zs) 32 = true := by
      refine decide_eq_true ⟨by omega, by omega, ?_⟩
      have h2 : n < 2 ^ 256 := Nat.lt_of_lt_of_le hn (by decide)
      rw [hv]
      have h3 := (bl_le_iff n 256).2 h2
      unfold blen
      omega
    unfold FixedPost fixL at h1
    rw [hf, if_pos rfl, hv] at h1
    exact h1
  obtain ⟨xs, hxs⟩ : ∃ xs, xs = beN n 32 := ⟨_, rfl⟩
  rw [← hxs] at fx
  have lx : xs.length = 32 := by rw [hxs, beN_len]
  have HXS : Hid (xs.reverse = leB n) := Lib.hid (by rw [hxs]; rfl)
  have LX := Lib.hid lx
  clear h hn hxs
  go_enter Tryd.func47, Tryd.ntmps47
  go_wp2_with fail
  refine fx.mono ?_; rintro e_ w1 ⟨v1, rfl, hnew, hb1⟩
  obtain ⟨a, cap, rfl, hx⟩ := hnew.sl
  rw [lx]
  have hs1 := hb1.size
  clear fx hnew lx
  go_wp2_with fail
  go_loopw [5, 6] (fun v t wr => ∃ i : Nat, i ≤ 32 ∧ t = .int .i64 ((i : Int) - 1) ∧ New w1.heap.size .u8 5 wr v (xs.drop i).reverse ∧ Below w1.heap.size w1 wr)
    (fun _ t _ => (intOf t + 1).toNat)
  case atStart => exact ⟨32, Nat.le_refl _, rfl, by rw [List.drop_of_length_le (by rw [LX.out]; omega)]; exact .nil _ _ _ _, .refl _ _⟩
  case round =>
    obtain ⟨i, hi, rfl, hv, hb⟩ := hrel
    have hbs := hb.size
    by_cases hi0 : i = 0
    · subst hi0
      rw [List.drop_zero, HXS.out] at hv
      go_wp2_with fail
      go_ret
      exact ⟨_, rfl, hv.mono hs1, hb1.trans (hb.mono hs1)⟩
    · obtain ⟨j, rfl⟩ : ∃ j, i = j + 1 := ⟨i - 1, by omega⟩
      obtain ⟨b, off, rfl, hc⟩ := (hx.below hb).cells (by rw [LX.out]; omega)
      have c0 := hc j (by rw [LX.out]; omega)
      have hji : ((j + 1 : Nat) : Int) - 1 = (j : Int) := by omega
      rw [hji]
      obtain ⟨L, hL1⟩ : ∃ L, L = (xs.drop (j + 1)).reverse := ⟨_, rfl⟩
      rw [← hL1] at hv
      have HL : Hid (L.length + j < 32) := Lib.hid (by rw [hL1, List.length_reverse, List.length_drop, LX.out]; omega)
      have fin : Hid (L ++ [nth xs j] = (xs.drop j).reverse) := Lib.hid (by rw [hL1]; exact rev_step (by rw [LX.out]; omega))
      have hjl : j < 32 := by omega
      have hjl2 : (j : Int) < 32 := by omega
      have hj0 : (0 : Int) ≤ (j : Int) := by omega
      clear hc hL1 hi0 hji
      go_wp2_with (at_builtin; refine wpList_append_new _ rfl _ _ 22 rfl w1.heap.size 5 .u8 1 Tryd.underlying22 info8a _ _ rfl (hv.alloc _) _ _ 1 [nth xs j] rfl rfl (cells_one _ _ _ _ _ rfl) (by have := HL.out; simp; omega) (by have := HL.out; simp; omega) (by simp; omega) ?_)
      intro v' w' hv' hg' _
      have hlt1 := fun g hg => (hv.lt g hg).1
      have hb' : Below w1.heap.size w1 w' := (hb.alloc hbs _).grown hg' (by simp; omega) hlt1
      rw [fin.out] at hv'
      clear hv hg' hb
      go_wp2_with fail
      go_roundw
      case rel => exact ⟨j, by omega, rfl, hv', hb'⟩
      case measure => simp [intOf]

set_option maxHeartbeats 1000000 in
set_option maxRecDepth 20000 in
theorem challenge13_c {af ap am : Option Addr} {cf cp cm : Nat} {first pub msg : List Int} {w : World} (hf : Sl .u8 w af cf first) (hp : Sl .u8 w ap cp pub) (hm : Sl .u8 w am cm msg) (uf : U8 first) (up : U8 pub) (um : U8 msg)
    (hl : first.length + pub.length + msg.length ≤ 17592186044415) (tL : TabAt w 2 limbL) (ht : ShaTabs w) :
    Calls Tryd.prog 27 #[.slice af first.length cf, .slice ap pub.length cp, .slice am msg.length cm] w (CanPost (chal first pub msg) w) := by
  have sc := Sum3n_c 3 af ap am cf cp cm first pub msg w hf hp hm uf up um (by omega) ht
  obtain ⟨H, hH⟩ : ∃ H, H = sha 3 (first ++ pub ++ msg) := ⟨_, rfl⟩
  have lH : H.length = 64 := by rw [hH, sha_len]; rfl
  have uH : U8 H := by rw [hH]; exact sha_u8 _ _
  rw [← hH] at sc
  have HH : Hid (lnum H % eL = chal first pub msg) := Lib.hid (by rw [hH]; rfl)
  have LH := Lib.hid lH
  have dlim : Lim 16 (lnum H) := ⟨by rw [R_pow_256]; exact Nat.lt_of_lt_of_le (lnum_lt uH) (Nat.pow_le_pow_right (by decide) (by omega))⟩
  clear hH
  go_enter Tryd.func27, Tryd.ntmps27
  go_wp2_with fail
  refine sc.mono ?_; rintro e_ w1 ⟨v1, rfl, hn, hb⟩
  obtain ⟨a, cap, rfl, hs⟩ := hn.sl
  have lc := little13_c a cap H w1 hs uH (by omega)
  rw [lH] at lc ⊢
  have hB := hb
  clear sc hn hb lH
  go_wp2_with fail
  refine lc.mono ?_; rintro e_ w2 ⟨v2, rfl, hr, hb⟩
  have c2 := hr.can (k := 16) dlim (by omega)
  replace hB := hB.trans (hb.mono hB.size)
  clear lc hr hb
  have oc := Order_c w2 (tL.below hB)
  go_wp2_with fail
  refine oc.mono ?_; rintro e_ w3 ⟨g3, rfl, _, hk3, hb⟩
  have c3 := CanAt.rw8 hk3 lim8_L
  replace c2 := c2.below hb
  replace hB := hB.trans (hb.mono hB.size)
  clear oc hk3 hb
  have dc := div_can c2.num c3.num (k := 16) dlim (by omega) eL_pos
  go_wp2_with fail
  refine dc.mono ?_; rintro e_ w4 ⟨vq, vr, rfl, _, cr, hb⟩
  rw [HH.out] at cr
  replace hB := hB.trans (hb.mono hB.size)
  clear dc c2 c3 hb
  go_wp2_with fail
  go_ret
  exact ⟨_, rfl, cr, hB⟩
end Go.Proofs.YtlolkighnnedfaaDoor
