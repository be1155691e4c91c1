/- pss.high, second, signetlaw10.turn, by their contracts. (Printed by gen_pssc.py.) -/
import Derived.Test.YtponfoijmmegmaaDoorEncN
import Derived.Test.YtponfoijmmegmaaDoorPssM
set_option linter.unusedVariables false
set_option linter.unusedSimpArgs false
namespace Go.Sg
open Go.RowKit
theorem i64_and7 (n : Int) : bits .and .i64 n 7 = n % 8 := by
  have h7 : (BitVec.ofInt 64 7).toNat = 2 ^ 3 - 1 := by decide
  have key : (BitVec.ofInt 64 n &&& BitVec.ofInt 64 7).toNat = (n % ((2 ^ 64 : Nat) : Int)).toNat % 2 ^ 3 := by
    rw [BitVec.toNat_and, BitVec.toNat_ofInt, h7, Nat.and_two_pow_sub_one_eq_mod]
  show IntKind.i64.wrap ((BitVec.ofInt 64 n &&& BitVec.ofInt 64 7).toNat : Nat) = n % 8
  rw [key, IntKind.wrap_i64]
  omega
/-- Bytes turned round. -/
def ng (xs : List Int) : List Int := xs.map (255 - ·)
theorem ng_len (xs : List Int) : (ng xs).length = xs.length := by unfold ng; rw [List.length_map]
theorem nth_ng (xs : List Int) (i : Nat) (h : i < xs.length) : nth (ng xs) i = 255 - nth xs i := by
  rw [nth_get _ _ (by rw [ng_len]; exact h), nth_get _ _ h]; simp [ng]
theorem ng_u8 {xs : List Int} (u : U8 xs) : U8 (ng xs) := by
  intro i
  by_cases h : i < xs.length
  · rw [nth_ng _ _ h]; have := u i; omega
  · rw [nth_out _ _ (by rw [ng_len]; omega)]; omega
end Go.Sg
namespace Go.Proofs.YtponfoijmmegmaaDoor
open Go.RowKit Go.Sg

theorem high_c (b : Nat) (hb : b ≤ 65536) (w : World) : Calls Tryd.prog 31 #[.int .i64 (b : Int)] w fun e w' => e = .returned (.int .u8 (topB b)) ∧ w = w' := by
  have e : bits .and .i64 (b : Int) 7 = ((b % 8 : Nat) : Int) := by rw [i64_and7]; omega
  obtain ⟨r, hr⟩ : ∃ r, r = b % 8 := ⟨_, rfl⟩
  have r8 : r < 8 := by omega
  have et : topB b = ((255 / 2 ^ ((8 - r) % 8) : Nat) : Int) := by unfold topB; rw [hr]
  rw [← hr] at e
  rw [et]
  clear et hr
  rcases (by omega : r = 0 ∨ r = 1 ∨ r = 2 ∨ r = 3 ∨ r = 4 ∨ r = 5 ∨ r = 6 ∨ r = 7) with rfl | rfl | rfl | rfl | rfl | rfl | rfl | rfl
  · have e0 : bits .and .i64 (b : Int) 7 = 0 := e
    have e1 : bits .and .i64 8 7 = 0 := by decide
    have e2 : ((255 / 2 ^ ((8 - 0) % 8) : Nat) : Int) = 255 := by decide
    rw [e2]
    clear e e2
    go_enter Tryd.func31, Tryd.ntmps31
    go_wp2_with fail
    go_ret
    exact ⟨rfl, rfl⟩
  · have e0 : bits .and .i64 (b : Int) 7 = 1 := e
    have e1 : bits .and .i64 7 7 = 7 := by decide
    have e2 : ((255 / 2 ^ ((8 - 1) % 8) : Nat) : Int) = 1 := by decide
    rw [e2]
    clear e e2
    go_enter Tryd.func31, Tryd.ntmps31
    go_wp2_with fail
    go_ret
    exact ⟨rfl, rfl⟩
  · have e0 : bits .and .i64 (b : Int) 7 = 2 := e
    have e1 : bits .and .i64 6 7 = 6 := by decide
    have e2 : ((255 / 2 ^ ((8 - 2) % 8) : Nat) : Int) = 3 := by decide
    rw [e2]
    clear e e2
    go_enter Tryd.func31, Tryd.ntmps31
    go_wp2_with fail
    go_ret
    exact ⟨rfl, rfl⟩
  · have e0 : bits .and .i64 (b : Int) 7 = 3 := e
    have e1 : bits .and .i64 5 7 = 5 := by decide
    have e2 : ((255 / 2 ^ ((8 - 3) % 8) : Nat) : Int) = 7 := by decide
    rw [e2]
    clear e e2
    go_enter Tryd.func31, Tryd.ntmps31
    go_wp2_with fail
    go_ret
    exact ⟨rfl, rfl⟩
  · have e0 : bits .and .i64 (b : Int) 7 = 4 := e
    have e1 : bits .and .i64 4 7 = 4 := by decide
    have e2 : ((255 / 2 ^ ((8 - 4) % 8) : Nat) : Int) = 15 := by decide
    rw [e2]
    clear e e2
    go_enter Tryd.func31, Tryd.ntmps31
    go_wp2_with fail
    go_ret
    exact ⟨rfl, rfl⟩
  · have e0 : bits .and .i64 (b : Int) 7 = 5 := e
    have e1 : bits .and .i64 3 7 = 3 := by decide
    have e2 : ((255 / 2 ^ ((8 - 5) % 8) : Nat) : Int) = 31 := by decide
    rw [e2]
    clear e e2
    go_enter Tryd.func31, Tryd.ntmps31
    go_wp2_with fail
    go_ret
    exact ⟨rfl, rfl⟩
  · have e0 : bits .and .i64 (b : Int) 7 = 6 := e
    have e1 : bits .and .i64 2 7 = 2 := by decide
    have e2 : ((255 / 2 ^ ((8 - 6) % 8) : Nat) : Int) = 63 := by decide
    rw [e2]
    clear e e2
    go_enter Tryd.func31, Tryd.ntmps31
    go_wp2_with fail
    go_ret
    exact ⟨rfl, rfl⟩
  · have e0 : bits .and .i64 (b : Int) 7 = 7 := e
    have e1 : bits .and .i64 1 7 = 1 := by decide
    have e2 : ((255 / 2 ^ ((8 - 7) % 8) : Nat) : Int) = 127 := by decide
    rw [e2]
    clear e e2
    go_enter Tryd.func31, Tryd.ntmps31
    go_wp2_with fail
    go_ret
    exact ⟨rfl, rfl⟩

set_option maxHeartbeats 2000000 in
theorem second_c (h : Int) (a a' : Option Addr) (cap cap' : Nat) (d s : List Int) (w : World) (hx : Sl .u8 w a cap d) (hy : Sl .u8 w a' cap' s) (ux : U8 d) (uy : U8 s) (hl : d.length + s.length ≤ 2097152) (ht : ShaTabs w) :
    Calls Tryd.prog 29 #[.int .i64 h, .slice a d.length cap, .slice a' s.length cap'] w (BytesPost (encSum h d s) w) := by
  have eF : encSum h d s = sha h (flat [⟨some ⟨w.heap.size, 0, none⟩, 8, z8⟩, ⟨a, cap, d⟩, ⟨a', cap', s⟩]) := by
    unfold encSum; simp [flat]
  have lF : (flat [⟨some ⟨w.heap.size, 0, none⟩, 8, z8⟩, ⟨a, cap, d⟩, ⟨a', cap', s⟩]).length < 2305843009213693952 := by
    simp [flat, z8]; omega
  rw [eF]
  obtain ⟨T, hT⟩ : ∃ T, T = flat [⟨some ⟨w.heap.size, 0, none⟩, 8, z8⟩, ⟨a, cap, d⟩, ⟨a', cap', s⟩] := ⟨_, rfl⟩
  rw [← hT] at lF ⊢
  have HT := Lib.hid hT
  clear eF hT
  go_enter Tryd.func29, Tryd.ntmps29
  go_wp2_with (at_make; refine wpList_make_blk _ rfl _ _ 23 rfl 5 .u8 1 Tryd.underlying23 info8s 8 _ _ rfl rfl (by omega) (by omega) (by omega) (by omega) ?_)
  intro w1 hk1 hs1 hb1
  have hx1 := hx.below hb1
  have hy1 := hy.below hb1
  have ht1 := ht.below hb1
  have s8 : Sl .u8 w1 (some ⟨w.heap.size, 0, none⟩) 8 z8 := hk1.sl_full (by simp)
  have al := (Below.refl w1.heap.size w1).alloc (Nat.le_refl _) (.cells #[.slice (some ⟨w.heap.size, 0, none⟩) 8 8, .slice a d.length cap, .slice a' s.length cap'] 23)
  have cs := ShaSum_c h (some ⟨w1.heap.size, 0, none⟩) 3 [⟨some ⟨w.heap.size, 0, none⟩, 8, z8⟩, ⟨a, cap, d⟩, ⟨a', cap', s⟩] _
    (rows_new w1 23 [⟨some ⟨w.heap.size, 0, none⟩, 8, z8⟩, ⟨a, cap, d⟩, ⟨a', cap', s⟩] #[.slice (some ⟨w.heap.size, 0, none⟩) 8 8, .slice a d.length cap, .slice a' s.length cap'] rfl
      (by intro p hp; simp only [List.mem_cons, List.not_mem_nil, or_false] at hp; rcases hp with rfl | rfl | rfl <;> first | exact s8 | exact hx1 | exact hy1)
      (by intro p hp; simp only [List.mem_cons, List.not_mem_nil, or_false] at hp; rcases hp with rfl | rfl | rfl <;> first | exact z8_u8 | exact ux | exact uy)) (by simp) (by rw [← HT.out]; exact lF) (ht1.below al)
  rw [← HT.out] at cs
  have cs2 := cs.mono fun e w' p => SumPost.from al p
  clear cs al s8 hk1 lF hs1
  go_wp2_with fail
  refine cs2.mono ?_; rintro e w2 ⟨v, rfl, hv, hb⟩
  go_wp2_with fail
  go_ret
  exact ⟨v, rfl, hv.mono hb1.size, hb1.trans (hb.mono hb1.size)⟩

set_option maxHeartbeats 2000000 in
theorem turn_c (g K : Nat) (xs tl : List Int) (w : World) (hk : Blk w g .u8 5 (xs ++ tl)) (ux : U8 xs) (hl : xs.length ≤ 140737488350000) (hK : xs.length ≤ K) :
    Calls Tryd.prog 14 #[.slice (some ⟨g, 0, none⟩) xs.length K] w fun e w' => e = .returned (.tuple #[]) ∧ Blk w' g .u8 5 (ng xs ++ tl) ∧ w.grownBy w' (some g) := by
  obtain ⟨l, hl1⟩ : ∃ l, l = xs.length := ⟨_, rfl⟩
  have HL := Lib.hid hl1
  rw [← hl1] at hl hK ⊢
  clear hl1
  go_enter Tryd.func14, Tryd.ntmps14
  go_wp2_with fail
  go_loopw [2] (fun t wr => ∃ (k : Nat) (z : List Int), k ≤ l ∧ t = .int .i64 (k : Int) ∧ z.length = l ∧ U8 z ∧ (∀ j, j < l → nth z j = if j < k then 255 - nth xs j else nth xs j) ∧ Blk wr g .u8 5 (z ++ tl) ∧ w.grownBy wr (some g)) (fun t _ => l - (intOf t).toNat)
  case atStart => exact ⟨0, xs, by omega, rfl, HL.out.symm, ux, fun j _ => by simp, hk, rfl, rfl, rfl, Nat.le_refl _, fun _ _ _ => rfl⟩
  case round =>
    clear hk
    obtain ⟨k, z, hk1, rfl, hzl, hu, hz, hkb, hg⟩ := hrel
    have ZL := Lib.hid hzl
    have HZ := Lib.hid hz
    clear hzl hz
    by_cases hlt : k < l
    · have c0 := hkb.cell k (by rw [List.length_append, ZL.out]; omega)
      rw [nth_append_left _ _ _ (by rw [ZL.out]; exact hlt)] at c0
      have f0 := hkb.free k
      have ux1 := hu k
      obtain ⟨x, hx⟩ : ∃ x, x = nth z k := ⟨_, rfl⟩
      rw [← hx] at c0 ux1
      obtain ⟨y, hy⟩ : ∃ y, y = 255 - x := ⟨_, rfl⟩
      have hyw : IntKind.u8.wrap (255 - x) = y := by rw [IntKind.wrap_u8', hy]; omega
      have hym : (255 - x) % 256 = y := by rw [hy]; omega
      have y0 : 0 ≤ y ∧ y ≤ 255 := by omega
      have hs := hkb.set k y
      rw [List.set_append_left _ _ (by rw [ZL.out]; exact hlt)] at hs
      have hg' := only_setCell (p := ⟨g, k, none⟩) hg (.inl rfl) (.int .u8 y)
      have hl2 : Hid ((z.set k y).length = l) := Lib.hid (by rw [List.length_set, ZL.out])
      have hu2 := InR.set hu k y0.1 y0.2
      have hz2 : Hid (∀ j, j < l → nth (z.set k y) j = if j < k + 1 then 255 - nth xs j else nth xs j) := Lib.hid (by
        intro j hj
        have h0 := HZ.out
        rw [nth_set _ _ _ _ (by rw [ZL.out]; exact hlt)]
        by_cases h1 : k = j
        · subst h1
          rw [if_pos rfl, if_pos (by omega), hy, hx, h0 k hj, if_neg (by omega)]
        · rw [if_neg h1, h0 j hj]
          by_cases h2 : j < k
          · rw [if_pos h2, if_pos (by omega)]
          · rw [if_neg h2, if_neg (by omega)])
      have hin : (k : Int) < (l : Int) := by omega
      have hd1 : decide ((k : Int) < (l : Int)) = true := decide_eq_true hin
      clear hx hy hkb hg
      go_wp2_with fail
      go_roundw
      case rel => exact ⟨k + 1, _, by omega, by go_num, hl2.out, hu2, hz2.out, hs, hg'⟩
      case measure => simp [intOf]; omega
    · obtain rfl : l = k := by omega
      have hd1 : decide ((l : Int) < (l : Int)) = false := by simp
      have e : Hid (z = ng xs) := Lib.hid (ext_nth _ _ (by rw [ng_len, ZL.out, HL.out]) fun j hj => by
        rw [ZL.out] at hj
        rw [HZ.out j hj, if_pos hj, nth_ng _ _ (by rw [← HL.out]; exact hj)])
      go_wp2_with fail
      go_end0
      exact ⟨rfl, by rw [← e.out]; exact hkb, hg⟩
end Go.Proofs.YtponfoijmmegmaaDoor