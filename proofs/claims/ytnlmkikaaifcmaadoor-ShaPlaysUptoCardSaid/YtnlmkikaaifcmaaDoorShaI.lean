/- signetref4: turn32, turn64, filled by their contracts. -/
import Derived.Test.YtnlmkikaaifcmaaDoorShaH
import Derived.Outline
set_option linter.unusedVariables false
set_option linter.unusedSimpArgs false
namespace Go.Sg
theorem gap_test2 {sz : Nat} (h : sz = 64 ∨ sz = 128) (n j : Nat) (hj : j ≤ gap sz 8 n) : ((n + 1 + j) % sz = sz - 8) ↔ j = gap sz 8 n := by
  unfold gap at *
  rcases h with rfl | rfl <;> omega
theorem gap_le2 {sz : Nat} (h : sz = 64 ∨ sz = 128) (n : Nat) : gap sz 8 n < sz := by
  unfold gap
  rcases h with rfl | rfl <;> omega
end Go.Sg
namespace Go.Proofs.YtnlmkikaaifcmaaDoor
open Go.RowKit Go.Sg

theorem turn32_c (x : BitVec 32) (n k : Nat) (w : World) (h0 : 0 < n) (h1 : n < 32) (hk : n + k = 32) :
    Calls Tryd.prog 22 #[.int .u32 (wi x), .int .i64 (n : Int)] w fun e w' => e = .returned (.int .u32 (wi (turn x n k))) ∧ w = w' := by
  have e2 : (32 : Int) - (n : Int) = (k : Int) := by omega
  have e3 : bits .or .u32 (wi x / 2 ^ n) (wi x * 2 ^ k % 4294967296) = wi (turn x n k) := by
    have a := shl32 x k
    have b := shr_wi x n
    rw [Int.natCast_pow] at a b
    rw [show (2 : Int) = ((2 : Nat) : Int) from rfl, a, b, or32, turn]
  have hk1 : k < 32 := by omega
  clear hk
  go_enter Tryd.func22, Tryd.ntmps22
  go_wp2_with fail
  go_ret
  exact ⟨rfl, rfl⟩
theorem turn64_c (x : BitVec 64) (n k : Nat) (w : World) (h0 : 0 < n) (h1 : n < 64) (hk : n + k = 64) :
    Calls Tryd.prog 23 #[.int .u64 (wi x), .int .i64 (n : Int)] w fun e w' => e = .returned (.int .u64 (wi (turn x n k))) ∧ w = w' := by
  have e2 : (64 : Int) - (n : Int) = (k : Int) := by omega
  have e3 : bits .or .u64 (wi x / 2 ^ n) (IntKind.u64.wrap (wi x * 2 ^ k)) = wi (turn x n k) := by
    have a := shl64 x k
    have b := shr_wi x n
    rw [Int.natCast_pow] at a b
    rw [IntKind.wrap_u64, show (2 : Int) = ((2 : Nat) : Int) from rfl, a, b, or64, turn]
  have hk1 : k < 64 := by omega
  clear hk
  go_enter Tryd.func23, Tryd.ntmps23
  go_wp2_with fail
  go_ret
  exact ⟨rfl, rfl⟩
theorem turn32_any (x : BitVec 32) (a : Int) (w : World) (h0 : 1 ≤ a) (h1 : a ≤ 31) :
    Calls Tryd.prog 22 #[.int .u32 (wi x), .int .i64 a] w fun e w' => e = .returned (.int .u32 (wi (turn x a.natAbs (32 - a.natAbs)))) ∧ w = w' := by
  obtain ⟨n, rfl⟩ : ∃ n : Nat, a = (n : Int) := ⟨a.toNat, by omega⟩
  exact turn32_c x n (32 - n) w (by omega) (by omega) (by omega)
theorem turn64_any (x : BitVec 64) (a : Int) (w : World) (h0 : 1 ≤ a) (h1 : a ≤ 63) :
    Calls Tryd.prog 23 #[.int .u64 (wi x), .int .i64 a] w fun e w' => e = .returned (.int .u64 (wi (turn x a.natAbs (64 - a.natAbs)))) ∧ w = w' := by
  obtain ⟨n, rfl⟩ : ∃ n : Nat, a = (n : Int) := ⟨a.toNat, by omega⟩
  exact turn64_c x n (64 - n) w (by omega) (by omega) (by omega)

def BytesPost (xs : List Int) (w : World) (e : Ending) (w' : World) : Prop := ∃ v, e = .returned v ∧ New w.heap.size .u8 5 w' v xs ∧ Below w.heap.size w w'

set_option maxHeartbeats 4000000 in
set_option maxRecDepth 100000 in
theorem rfilled_c (a : Option Addr) (cap : Nat) (bs : List Int) (sz : Nat) (w : World) (hx : Sl .u8 w a cap bs) (hlen : bs.length ≤ 140737488355000) (hs2 : sz = 64 ∨ sz = 128) :
    Calls Tryd.prog 21 #[.slice a bs.length cap, .int .i64 (sz : Int)] w (BytesPost (padded sz 8 bs) w) := by
  obtain ⟨N, hN⟩ : ∃ N, N = bs.length := ⟨_, rfl⟩
  rw [← hN] at hlen ⊢
  have HN := Lib.hid hN
  have HS2 := Lib.hid hs2
  have s1 : 64 ≤ sz := by omega
  have s2 : sz ≤ 128 := by omega
  have hmx := hx.max
  obtain ⟨z, hz⟩ : ∃ z, z = gap sz 8 N := ⟨_, rfl⟩
  have HZ := Lib.hid hz
  have zlt : z < sz := by rw [hz]; exact gap_le2 hs2 N
  clear hN hs2 hz
  go_enter Tryd.func21, Tryd.ntmps21
  go_wp2_with (at_builtin; refine wpList_append_new _ rfl (.tmp 8) (.tmp 9) 29 rfl w.heap.size 5 .u8 1 Tryd.underlying29 info8s _ [] rfl (New.nil _ _ _ _) _ _ N bs rfl HN.out hx.cells (by rw [← HN.out]; simp; omega) (by rw [← HN.out]; simp; omega) (Nat.le_refl _) ?_)
  intro v1 w1 hv1 hg1 _
  have hb1 : Below w.heap.size w w1 := (Below.refl _ _).grown hg1 (Nat.le_refl _) fun g hg => by simp [Value.ownBlock] at hg
  obtain ⟨a1, c1, rfl, hsl1⟩ := hv1.sl
  rw [← HN.out] at hv1 ⊢
  have hs1' := hb1.size
  clear hg1 hsl1 hx
  go_wp2_with (at_builtin; refine wpList_append_new _ rfl (.tmp 11) (.tmp 12) 29 rfl w.heap.size 5 .u8 1 Tryd.underlying29 info8s _ bs rfl (hv1.alloc _) _ _ 1 [128] rfl rfl (cells_one _ _ _ _ _ rfl) (by rw [← HN.out]; simp; omega) (by rw [← HN.out]; simp; omega) (by simp; omega) ?_)
  intro v2 w2 hv2 hg2 _
  have hlt1 := fun g hg => (hv1.lt g hg).1
  have hb2 : Below w.heap.size w w2 := (hb1.alloc hs1' _).grown hg2 (by simp; omega) hlt1
  have hv2' : New w.heap.size .u8 5 w2 v2 (bs ++ 128 :: List.replicate 0 0) := hv2
  clear hv2 hg2 hb1 hv1
  go_wp2_with fail
  go_loopw [5] (fun v wr => ∃ (j : Nat), j ≤ z ∧ New w.heap.size .u8 5 wr v (bs ++ 128 :: List.replicate j 0) ∧ Below w.heap.size w wr)
    (fun v _ => match v with | .slice _ n _ => N + z + 1 - n | _ => 0)
  case atStart => exact ⟨0, by omega, hv2', hb2⟩
  case round =>
    clear hv2' hb2
    obtain ⟨j, hj, hv, hb⟩ := hrel
    obtain ⟨a, cap, rfl, hsl⟩ := hv.sl
    obtain ⟨ln, hln⟩ : ∃ ln, ln = (bs ++ 128 :: List.replicate j (0 : Int)).length := ⟨_, rfl⟩
    rw [← hln] at hv ⊢
    have hl1 : ln = N + 1 + j := by rw [hln, HN.out]; simp; omega
    have HL := Lib.hid hln
    have HL1 := Lib.hid hl1
    have lb : ln ≤ 140737488355300 := by omega
    have hbs := hb.size
    clear hln hl1
    by_cases hjz : j = z
    · have ht1 : ((ln : Int) % (sz : Int) != (sz : Int) - 8) = false := by
        have := (gap_test2 HS2.out N j (by rw [← HZ.out]; exact hj)).2 (by rw [← HZ.out]; exact hjz)
        rw [← HL1.out] at this
        rw [← Int.natCast_emod, this]
        simp
        omega
      obtain rfl : j = z := hjz
      have hv0 : New w.heap.size .u8 5 wr (.slice a ln cap) (bs ++ 128 :: (List.replicate j 0 ++ (lenB N 8).take (8 - 8))) := by
        rw [show (bs ++ 128 :: (List.replicate j 0 ++ (lenB N 8).take (8 - 8)) : List Int) = bs ++ 128 :: List.replicate j 0 by simp]
        exact hv
      clear hsl hv
      go_wp2_with fail
      clear ht1
      go_loopw [5, 7] (fun v t wr => ∃ (c : Nat), c ≤ 8 ∧ t = .int .i64 ((c : Int) - 1) ∧ New w.heap.size .u8 5 wr v (bs ++ 128 :: (List.replicate j 0 ++ (lenB N 8).take (8 - c))) ∧ Below w.heap.size w wr)
        (fun _ t _ => (intOf t + 1).toNat)
      case atStart => exact ⟨8, Nat.le_refl _, rfl, hv0, hb⟩
      case round =>
        clear hv0 hb hbs
        obtain ⟨c, hcf, rfl, hv, hb⟩ := hrel
        have hbs := hb.size
        obtain ⟨a1, cap1, rfl, hsl⟩ := hv.sl
        obtain ⟨l2, hl2⟩ : ∃ l2, l2 = (bs ++ 128 :: (List.replicate j (0 : Int) ++ (lenB N 8).take (8 - c))).length := ⟨_, rfl⟩
        rw [← hl2] at hv ⊢
        have HLL : Hid (l2 = N + 1 + j + (8 - c)) := Lib.hid (by rw [hl2, HN.out]; simp [lenB_len]; omega)
        have lb2 : l2 ≤ 140737488355200 := by have := HLL.out; omega
        have HL2 := Lib.hid hl2
        clear hl2
        rcases Nat.eq_zero_or_pos c with h0 | hp
        · subst h0
          rw [show (((0 : Nat) : Int) - 1) = -1 from rfl]
          have hv3 : New w.heap.size .u8 5 wr (.slice a1 l2 cap1) (padded sz 8 bs) := by
            rw [padded, tail_, ← HN.out, ← HZ.out]
            rw [Nat.sub_zero, List.take_of_length_le (Nat.le_of_eq (lenB_len N 8))] at hv
            exact hv
          clear hv hsl
          go_wp2_with fail
          go_ret
          exact ⟨_, rfl, hv3, hb⟩
        · obtain ⟨c, rfl⟩ : ∃ k, c = k + 1 := ⟨c - 1, by omega⟩
          rw [show (((c + 1 : Nat) : Int) - 1) = (c : Int) by omega]
          obtain ⟨x, hx⟩ : ∃ x, x = 8 * N / 256 ^ c % 256 := ⟨_, rfl⟩
          have HX := Lib.hid hx
          have x256 : x < 256 := by rw [hx]; exact Nat.mod_lt _ (by decide)
          have hand : bits .and .u64 ((N : Int) * 8 / 2 ^ (8 * c)) 255 = (x : Int) := by
            have e : (N : Int) * 8 / 2 ^ (8 * c) = ((8 * N / 2 ^ (8 * c) : Nat) : Int) := by
              simp only [Int.natCast_ediv, Int.natCast_mul, Int.natCast_pow]
              rw [Int.mul_comm]; rfl
            have hb : 8 * N / 2 ^ (8 * c) ≤ 8 * N := Nat.div_le_self _ _
            rw [e]
            refine (u64_and_nat _ 255 (by omega) (by omega)).trans ?_
            rw [Nat.and_two_pow_sub_one_eq_mod _ 8, hx, show (256 : Nat) ^ c = 2 ^ (8 * c) by rw [show (256 : Nat) = 2 ^ 8 from rfl, ← Nat.pow_mul]]
          clear hx
          go_wp2_with (at_builtin; refine wpList_append_new _ rfl _ _ 29 rfl w.heap.size 5 .u8 1 Tryd.underlying29 info8s _ _ rfl (hv.alloc _) _ _ 1 [(x : Int)] rfl rfl (cells_one _ _ _ _ _ rfl) (by rw [← HL2.out]; simp; omega) (by rw [← HL2.out]; simp; omega) (by simp; omega) ?_)
          intro v' w' hv' hg' _
          have hlt1 := fun g hg => (hv.lt g hg).1
          have hb' : Below w.heap.size w w' := (hb.alloc hbs _).grown hg' (by simp; omega) hlt1
          replace hv' : New w.heap.size .u8 5 w' v' (bs ++ 128 :: (List.replicate j 0 ++ (lenB N 8).take (8 - c))) := by
            rw [lenB_take_next N 8 c (by omega), ← HX.out, show 8 - (c + 1) = 7 - c by omega]
            simpa using hv'
          clear hv hg' hb hsl hand
          go_wp2_with fail
          go_roundw
          case rel => exact ⟨c, by omega, by go_num, hv', hb'⟩
          case measure => simp [intOf]
    · have ht1 : ((ln : Int) % (sz : Int) != (sz : Int) - 8) = true := by
        have := mt (gap_test2 HS2.out N j (by rw [← HZ.out]; exact hj)).1 (by rw [← HZ.out]; exact hjz)
        rw [← HL1.out] at this
        rw [← Int.natCast_emod]
        simp
        omega
      have hjz2 : j < z := by omega
      clear hjz
      go_wp2_with (at_builtin; refine wpList_append_new _ rfl _ _ 29 rfl w.heap.size 5 .u8 1 Tryd.underlying29 info8s _ _ rfl (hv.alloc _) _ _ 1 [0] rfl rfl (cells_one _ _ _ _ _ rfl) (by rw [← HL.out]; simp; omega) (by rw [← HL.out]; simp; omega) (by simp; omega) ?_)
      intro v' w' hv' hg' _
      have hlt1 := fun g hg => (hv.lt g hg).1
      have hb' : Below w.heap.size w w' := (hb.alloc hbs _).grown hg' (by simp; omega) hlt1
      replace hv' : New w.heap.size .u8 5 w' v' (bs ++ 128 :: List.replicate (j + 1) 0) := by rw [List.replicate_succ']; simpa using hv'
      obtain ⟨a2, cap2, rfl, hsl2⟩ := hv'.sl
      clear hv hg' hb hsl
      go_wp2_with fail
      go_roundw
      case rel => exact ⟨j + 1, by omega, hv', hb'⟩
      case measure => have := HL1.out; have := HN.out; simp; omega
end Go.Proofs.YtnlmkikaaifcmaaDoor
