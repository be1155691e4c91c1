/- signetref4: Size, Block, Sum; signetref5: Block, Filled, Sum, Equal, Check, by their contracts. (Printed by gen_refs.py.) -/
import Derived.Test.YtiiedgbdooamaaaDoorHmacA
import Derived.Test.YtiiedgbdooamaaaDoorShaKA
import Derived.Test.YtiiedgbdooamaaaDoorShaKB
import Derived.Test.YtiiedgbdooamaaaDoorShaKM
import Derived.Test.YtiiedgbdooamaaaDoorCutH
set_option linter.unusedVariables false
set_option linter.unusedSimpArgs false
namespace Go.Sg
open Go.RowKit
theorem New.head {B : Nat} {k : IntKind} {E : TypeId} {w : World} {a : Option Addr} {n cap : Nat} {xs : List Int} (h : New B k E w (.slice a n cap) xs) (m : Nat) (hm : m ≤ xs.length) (hp : 0 < xs.length) : New B k E w (.slice a m cap) (xs.take m) := by
  rcases h with ⟨hv, rfl⟩ | ⟨g, cp, cs, hv, hg, hh, h1, h2, h3, h4⟩
  · simp at hp
  · simp only [Value.slice.injEq] at hv
    obtain ⟨rfl, rfl, rfl⟩ := hv
    refine .inr ⟨g, cap, cs, ?_, hg, hh, ?_, h2, h3, ?_⟩
    · rw [List.length_take, Nat.min_eq_left hm]
    · rw [List.length_take, Nat.min_eq_left hm]; omega
    · rw [List.length_take, Nat.min_eq_left hm, List.map_take, ← h4, List.take_take, Nat.min_eq_left hm]
theorem sum64_len (s : S8 64) (bs : List Int) : (sum64 s bs).length = 64 := by unfold sum64; rw [flat64_len]; rfl
theorem nth_key0 (h : Int) (k : List Int) (i : Nat) : nth (key0 h k) i = if i < (hkeyOf h k).length then nth (hkeyOf h k) i else 0 := by
  unfold key0
  split
  · rw [nth_append_left _ _ _ (by assumption)]
  · rename_i h0
    obtain ⟨j, rfl⟩ : ∃ j, i = (hkeyOf h k).length + j := ⟨i - (hkeyOf h k).length, by omega⟩
    rw [nth_append_right, nth_replicate0]
end Go.Sg
namespace Go.Proofs.YtiiedgbdooamaaaDoor
open Go.RowKit Go.Sg

theorem rSize_c (h : Int) (w : World) : Calls Tryd.prog 22 #[.int .i64 h] w fun e w' => e = .returned (.int .i64 (shaSize h)) ∧ w = w' := by
  by_cases h1 : h = 1
  · subst h1
    go_enter Tryd.func22, Tryd.ntmps22
    go_wp2
    go_ret
    exact ⟨rfl, rfl⟩
  by_cases h2 : h = 2
  · subst h2
    go_enter Tryd.func22, Tryd.ntmps22
    go_wp2
    go_ret
    exact ⟨rfl, rfl⟩
  by_cases h3 : h = 3
  · subst h3
    go_enter Tryd.func22, Tryd.ntmps22
    go_wp2
    go_ret
    exact ⟨rfl, rfl⟩
  have e : Hid (shaSize h = 0) := Lib.hid (by unfold shaSize; rw [if_neg h1, if_neg h2, if_neg h3])
  have g1 : (h == 1) = false := by simpa using h1
  have g2 : (h == 2) = false := by simpa using h2
  have g3 : (h == 3) = false := by simpa using h3
  clear h1 h2 h3
  go_enter Tryd.func22, Tryd.ntmps22
  go_wp2
  go_ret
  exact ⟨by rw [e.out]; rfl, rfl⟩

theorem rBlock_c (h : Int) (w : World) : Calls Tryd.prog 36 #[.int .i64 h] w fun e w' => e = .returned (.int .i64 (shaBlock h)) ∧ w = w' := by
  by_cases h1 : h = 1
  · subst h1
    go_enter Tryd.func36, Tryd.ntmps36
    go_wp2
    go_ret
    exact ⟨rfl, rfl⟩
  by_cases h2 : h = 2
  · subst h2
    go_enter Tryd.func36, Tryd.ntmps36
    go_wp2
    go_ret
    exact ⟨rfl, rfl⟩
  by_cases h3 : h = 3
  · subst h3
    go_enter Tryd.func36, Tryd.ntmps36
    go_wp2
    go_ret
    exact ⟨rfl, rfl⟩
  have e : Hid (shaBlock h = 0) := Lib.hid (by unfold shaBlock; rw [if_neg h1, if_neg h2, if_neg h3])
  have g1 : (h == 1) = false := by simpa using h1
  have g2 : (h == 2) = false := by simpa using h2
  have g3 : (h == 3) = false := by simpa using h3
  clear h1 h2 h3
  go_enter Tryd.func36, Tryd.ntmps36
  go_wp2
  go_ret
  exact ⟨by rw [e.out]; rfl, rfl⟩

theorem rBlock5_c (h : Int) (w : World) : Calls Tryd.prog 87 #[.int .i64 h] w fun e w' => e = .returned (.int .i64 (shaBlock h)) ∧ w = w' := by
  by_cases h1 : h = 1
  · subst h1
    go_enter Tryd.func87, Tryd.ntmps87
    go_wp2
    go_ret
    exact ⟨rfl, rfl⟩
  by_cases h2 : h = 2
  · subst h2
    go_enter Tryd.func87, Tryd.ntmps87
    go_wp2
    go_ret
    exact ⟨rfl, rfl⟩
  by_cases h3 : h = 3
  · subst h3
    go_enter Tryd.func87, Tryd.ntmps87
    go_wp2
    go_ret
    exact ⟨rfl, rfl⟩
  have e : Hid (shaBlock h = 0) := Lib.hid (by unfold shaBlock; rw [if_neg h1, if_neg h2, if_neg h3])
  have g1 : (h == 1) = false := by simpa using h1
  have g2 : (h == 2) = false := by simpa using h2
  have g3 : (h == 3) = false := by simpa using h3
  clear h1 h2 h3
  go_enter Tryd.func87, Tryd.ntmps87
  go_wp2
  go_ret
  exact ⟨by rw [e.out]; rfl, rfl⟩

theorem long_c (s : S8 64) (a : Option Addr) (cap : Nat) (bs : List Int) (w : World) (hx : Sl .u8 w a cap bs) (ub : U8 bs) (hlen : bs.length ≤ 140737488354000) (ht : RefTabs w) :
    Calls Tryd.prog 85 #[.slice a bs.length cap, .agg (s.list.map v64).toArray] w (BytesPost (sum64 s bs) w) := by
  cases hL : long128 bs.length with
  | true => exact long_more s a cap bs w hx ub hlen hL ht
  | false =>
    by_cases hr : bs.length % 128 < 112
    · exact long_lo s a cap bs w hx ub hlen hL hr ht
    · exact long_hi s a cap bs w hx ub hlen hL (by have h := of_decide_eq_false hL; omega) ht

set_option maxHeartbeats 4000000 in
set_option maxRecDepth 100000 in
theorem rSum_c (h : Int) (a : Option Addr) (cap : Nat) (bs : List Int) (w : World) (hx : Sl .u8 w a cap bs) (ub : U8 bs) (hlen : bs.length ≤ 140737488354000) (ht : RefTabs w) :
    Calls Tryd.prog 29 #[.int .i64 h, .slice a bs.length cap] w (BytesPost (sha h bs) w) := by
  by_cases h1 : h = 1
  · subst h1
    have c := short_c a cap bs w hx ub (by omega) ht
    go_enter Tryd.func29, Tryd.ntmps29
    go_wp2_with fail
    refine c.mono ?_; rintro e w1 ⟨v, rfl, hv, hb⟩
    go_wp2_with fail
    go_ret
    exact ⟨v, rfl, hv, hb⟩
  by_cases h2 : h = 2
  · subst h2
    have c := long_c start384 a cap bs w hx ub hlen ht
    have hr := ht.b384
    go_enter Tryd.func29, Tryd.ntmps29
    go_wp2_with (refine wpList_load_mid rfl 95 (.global 3) rfl 3 0 rfl (start384.list.map v64) _ hr Tryd.underlying95 rfl size8l ?_)
    refine c.mono ?_; rintro e w1 ⟨v, rfl, hv, hb⟩
    obtain ⟨a1, c1, rfl, s1⟩ := hv.sl
    have hc1 := s1.le
    obtain ⟨z, hz⟩ : ∃ z, z = sum64 start384 bs := ⟨_, rfl⟩
    rw [← hz] at hv s1 hc1 ⊢
    have zl : z.length = 64 := by rw [hz, sum64_len]
    have hcut := fun W => cut_h0 (P := Tryd.prog) W 29 5 Tryd.underlying29 size8 a1 z.length c1 48 (by omega)
    have hv2 := hv.head 48 (by omega) (by omega)
    have HZ := Lib.hid hz
    have ZL := Lib.hid zl
    rw [show ((48 : Nat) : Int) = 48 from rfl] at hcut
    clear hz zl hr c
    go_wp2_with fail
    go_ret
    exact ⟨_, rfl, by rw [HZ.out] at hv2; exact hv2, hb⟩
  by_cases h3 : h = 3
  · subst h3
    have c := long_c start512 a cap bs w hx ub hlen ht
    have hr := ht.b512
    go_enter Tryd.func29, Tryd.ntmps29
    go_wp2_with (refine wpList_load_mid rfl 95 (.global 4) rfl 4 0 rfl (start512.list.map v64) _ hr Tryd.underlying95 rfl size8l ?_)
    refine c.mono ?_; rintro e w1 ⟨v, rfl, hv, hb⟩
    go_wp2_with fail
    go_ret
    exact ⟨v, rfl, hv, hb⟩
  have e : Hid (sha h bs = []) := Lib.hid (by unfold sha; rw [if_neg h1, if_neg h2, if_neg h3])
  have g1 : (h == 1) = false := by simpa using h1
  have g2 : (h == 2) = false := by simpa using h2
  have g3 : (h == 3) = false := by simpa using h3
  clear h1 h2 h3
  go_enter Tryd.func29, Tryd.ntmps29
  go_wp2
  go_ret
  exact ⟨_, rfl, by rw [e.out]; exact .nil _ _ _ _, .refl _ _⟩

set_option maxHeartbeats 4000000 in
set_option maxRecDepth 20000 in
theorem rFilled_c (h x : Int) (a : Option Addr) (cap : Nat) (k : List Int) (w : World) (hx : Sl .u8 w a cap k) (ux : U8 k) (hlen : k.length ≤ 140737488354000) (ht : RefTabs w) :
    Calls Tryd.prog 88 #[.int .i64 h, .slice a k.length cap, .int .u8 x] w (BytesPost (hfill h k x) w) := by
  obtain ⟨sz, hsz⟩ : ∃ sz, sz = shaBlock h := ⟨_, rfl⟩
  have HSZ := Lib.hid hsz
  have hz1 : sz ≤ 128 := by rw [hsz]; exact shaBlock_le h
  have HKL : Hid ((key0 h k).length = sz) := Lib.hid (by rw [hsz]; exact key0_len' k)
  have kl : (hkeyOf h k).length ≤ sz := by rw [hsz]; exact hkeyOf_len' k
  have bl := fun W => rBlock5_c h W
  rw [← hsz] at bl
  go_enter Tryd.func88, Tryd.ntmps88
  go_wp2_with fail
  refine (bl _).mono ?_; rintro e w' ⟨rfl, rfl⟩
  by_cases hlt : sz < k.length
  · have hK : Hid (hkeyOf h k = sha h k) := Lib.hid (if_pos (by rw [← hsz]; exact hlt))
    have hgt : (sz : Int) < (k.length : Int) := by omega
    clear hsz hlt
    go_wp2_with fail
    refine (rSum_c h a cap k w hx ux (by omega) ht).mono ?_; rintro e wk ⟨v, rfl, hv, HB⟩
    obtain ⟨ak, ck, rfl, sk⟩ := hv.sl
    rw [← hK.out] at sk ⊢
    obtain ⟨K, hK2⟩ : ∃ K, K = hkeyOf h k := ⟨_, rfl⟩
    rw [← hK2] at sk kl ⊢
    have HK2 := Lib.hid hK2
    clear hv hgt hK2
    go_wp2_with fail
    go_loopw [8, 9, 10] (fun v t _ wr => ∃ i : Nat, i ≤ sz ∧ t = .int .i64 (i : Int) ∧ New wk.heap.size .u8 5 wr v (((key0 h k).take i).map fun b => bx b x) ∧ Below wk.heap.size wk wr)
      (fun _ t _ _ => sz - (intOf t).toNat)
    case atStart => exact ⟨0, by omega, rfl, .nil _ _ _ _, .refl _ _⟩
    case round =>
      obtain ⟨i, hi, rfl, hv, hb⟩ := hrel
      have hbs := hb.size
      obtain ⟨l, hl1⟩ : ∃ l, l = ((key0 h k).take i).map fun b => bx b x := ⟨_, rfl⟩
      rw [← hl1] at hv
      have HL : Hid (l.length ≤ 128) := Lib.hid (by rw [hl1]; simp; omega)
      have HL1 := Lib.hid hl1
      clear hl1
      go_wp2_with fail
      refine (bl _).mono ?_; rintro e w' ⟨rfl, rfl⟩
      by_cases hlt : i < sz
      · have hd1 : decide ((i : Int) < (sz : Int)) = true := decide_eq_true (by omega)
        by_cases hik : i < K.length
        · have fin : Hid (l ++ [bx (nth K i) x] = ((key0 h k).take (i + 1)).map fun b => bx b x) := Lib.hid (by
            rw [HL1.out, take_succ_nth _ _ (by rw [HKL.out]; exact hlt), nth_key0, ← HK2.out, if_pos hik]; simp)
          obtain ⟨b, off, eaa, hc⟩ := (sk.below hb).cells (by omega)
          subst eaa
          have c0 := hc i hik
          have hxo : bits .xor .u8 (nth K i) x = bx (nth K i) x := rfl
          have hd2 : decide ((i : Int) < (K.length : Int)) = true := decide_eq_true (by omega)
          clear hc
          go_wp2_with (at_builtin; refine wpList_append_new _ rfl _ _ 29 rfl wk.heap.size 5 .u8 1 Tryd.underlying29 info8s _ _ rfl (hv.alloc _) _ _ 1 [bx (nth K i) x] rfl rfl (cells_one _ _ _ _ _ rfl) (by have := HL.out; simp; omega) (by have := HL.out; simp; omega) (by simp; omega) ?_)
          intro v' w' hv' hg' _
          have hlt1 := fun g hg => (hv.lt g hg).1
          have hb' : Below wk.heap.size wk w' := (hb.alloc hbs _).grown hg' (by simp; omega) hlt1
          rw [fin.out] at hv'
          clear hv hg' hb hxo
          go_wp2_with fail
          go_roundw
          case rel => exact ⟨i + 1, by omega, by go_num, hv', hb'⟩
          case measure => simp [intOf]; omega
        · have fin : Hid (l ++ [bx 0 x] = ((key0 h k).take (i + 1)).map fun b => bx b x) := Lib.hid (by
            rw [HL1.out, take_succ_nth _ _ (by rw [HKL.out]; exact hlt), nth_key0, ← HK2.out, if_neg hik]; simp)
          have hd2 : decide ((i : Int) < (K.length : Int)) = false := decide_eq_false (by omega)
          have hxo : bits .xor .u8 0 x = bx 0 x := rfl
          go_wp2_with (at_builtin; refine wpList_append_new _ rfl _ _ 29 rfl wk.heap.size 5 .u8 1 Tryd.underlying29 info8s _ _ rfl (hv.alloc _) _ _ 1 [bx 0 x] rfl rfl (cells_one _ _ _ _ _ rfl) (by have := HL.out; simp; omega) (by have := HL.out; simp; omega) (by simp; omega) ?_)
          intro v' w' hv' hg' _
          have hlt1 := fun g hg => (hv.lt g hg).1
          have hb' : Below wk.heap.size wk w' := (hb.alloc hbs _).grown hg' (by simp; omega) hlt1
          rw [fin.out] at hv'
          clear hv hg' hb hxo
          go_wp2_with fail
          go_roundw
          case rel => exact ⟨i + 1, by omega, by go_num, hv', hb'⟩
          case measure => simp [intOf]; omega
      · obtain rfl : sz = i := by omega
        have hd1 : decide ((sz : Int) < (sz : Int)) = false := by simp
        have hlz : l = hfill h k x := by
          have := HL1.out
          rw [List.take_of_length_le (by rw [HKL.out]; exact Nat.le_refl _)] at this
          exact this
        have hfin := HB.trans (hb.mono HB.size)
        have hge := HB.size
        rw [hlz] at hv
        clear hlz
        go_wp2_with fail
        go_ret
        exact ⟨_, rfl, hv.mono hge, hfin⟩
  · have hK : Hid (hkeyOf h k = k) := Lib.hid (if_neg (by rw [← hsz]; exact hlt))
    obtain ⟨wk, hwk⟩ : ∃ wk : World, wk = w := ⟨_, rfl⟩
    have sk : Sl .u8 wk a cap (hkeyOf h k) := by rw [hK.out, hwk]; exact hx
    have HB : Below w.heap.size w wk := by rw [hwk]; exact .refl _ _
    have hkk : k.length = (hkeyOf h k).length := by rw [hK.out]
    have hle : ¬ (sz : Int) < (k.length : Int) := by omega
    have hle2 : decide ((sz : Int) < (k.length : Int)) = false := decide_eq_false hle
    have hle3 : decide (sz < k.length) = false := decide_eq_false hlt
    obtain ⟨K, hK2⟩ : ∃ K, K = hkeyOf h k := ⟨_, rfl⟩
    rw [← hwk]
    rw [← hK2] at sk kl hkk
    rw [hkk] at hle hle2 hle3 ⊢
    have HK2 := Lib.hid hK2
    clear hsz hlt hwk hkk hx hK2
    go_wp2_with fail
    go_loopw [8, 9, 10] (fun v t _ wr => ∃ i : Nat, i ≤ sz ∧ t = .int .i64 (i : Int) ∧ New wk.heap.size .u8 5 wr v (((key0 h k).take i).map fun b => bx b x) ∧ Below wk.heap.size wk wr)
      (fun _ t _ _ => sz - (intOf t).toNat)
    case atStart => exact ⟨0, by omega, rfl, .nil _ _ _ _, .refl _ _⟩
    case round =>
      obtain ⟨i, hi, rfl, hv, hb⟩ := hrel
      have hbs := hb.size
      obtain ⟨l, hl1⟩ : ∃ l, l = ((key0 h k).take i).map fun b => bx b x := ⟨_, rfl⟩
      rw [← hl1] at hv
      have HL : Hid (l.length ≤ 128) := Lib.hid (by rw [hl1]; simp; omega)
      have HL1 := Lib.hid hl1
      clear hl1
      go_wp2_with fail
      refine (bl _).mono ?_; rintro e w' ⟨rfl, rfl⟩
      by_cases hlt : i < sz
      · have hd1 : decide ((i : Int) < (sz : Int)) = true := decide_eq_true (by omega)
        by_cases hik : i < K.length
        · have fin : Hid (l ++ [bx (nth K i) x] = ((key0 h k).take (i + 1)).map fun b => bx b x) := Lib.hid (by
            rw [HL1.out, take_succ_nth _ _ (by rw [HKL.out]; exact hlt), nth_key0, ← HK2.out, if_pos hik]; simp)
          obtain ⟨b, off, eaa, hc⟩ := (sk.below hb).cells (by omega)
          subst eaa
          have c0 := hc i hik
          have hxo : bits .xor .u8 (nth K i) x = bx (nth K i) x := rfl
          have hd2 : decide ((i : Int) < (K.length : Int)) = true := decide_eq_true (by omega)
          clear hc
          go_wp2_with (at_builtin; refine wpList_append_new _ rfl _ _ 29 rfl wk.heap.size 5 .u8 1 Tryd.underlying29 info8s _ _ rfl (hv.alloc _) _ _ 1 [bx (nth K i) x] rfl rfl (cells_one _ _ _ _ _ rfl) (by have := HL.out; simp; omega) (by have := HL.out; simp; omega) (by simp; omega) ?_)
          intro v' w' hv' hg' _
          have hlt1 := fun g hg => (hv.lt g hg).1
          have hb' : Below wk.heap.size wk w' := (hb.alloc hbs _).grown hg' (by simp; omega) hlt1
          rw [fin.out] at hv'
          clear hv hg' hb hxo
          go_wp2_with fail
          go_roundw
          case rel => exact ⟨i + 1, by omega, by go_num, hv', hb'⟩
          case measure => simp [intOf]; omega
        · have fin : Hid (l ++ [bx 0 x] = ((key0 h k).take (i + 1)).map fun b => bx b x) := Lib.hid (by
            rw [HL1.out, take_succ_nth _ _ (by rw [HKL.out]; exact hlt), nth_key0, ← HK2.out, if_neg hik]; simp)
          have hd2 : decide ((i : Int) < (K.length : Int)) = false := decide_eq_false (by omega)
          have hxo : bits .xor .u8 0 x = bx 0 x := rfl
          go_wp2_with (at_builtin; refine wpList_append_new _ rfl _ _ 29 rfl wk.heap.size 5 .u8 1 Tryd.underlying29 info8s _ _ rfl (hv.alloc _) _ _ 1 [bx 0 x] rfl rfl (cells_one _ _ _ _ _ rfl) (by have := HL.out; simp; omega) (by have := HL.out; simp; omega) (by simp; omega) ?_)
          intro v' w' hv' hg' _
          have hlt1 := fun g hg => (hv.lt g hg).1
          have hb' : Below wk.heap.size wk w' := (hb.alloc hbs _).grown hg' (by simp; omega) hlt1
          rw [fin.out] at hv'
          clear hv hg' hb hxo
          go_wp2_with fail
          go_roundw
          case rel => exact ⟨i + 1, by omega, by go_num, hv', hb'⟩
          case measure => simp [intOf]; omega
      · obtain rfl : sz = i := by omega
        have hd1 : decide ((sz : Int) < (sz : Int)) = false := by simp
        have hlz : l = hfill h k x := by
          have := HL1.out
          rw [List.take_of_length_le (by rw [HKL.out]; exact Nat.le_refl _)] at this
          exact this
        have hfin := HB.trans (hb.mono HB.size)
        have hge := HB.size
        rw [hlz] at hv
        clear hlz
        go_wp2_with fail
        go_ret
        exact ⟨_, rfl, hv.mono hge, hfin⟩

set_option maxHeartbeats 4000000 in
set_option maxRecDepth 20000 in
theorem rHmac_c (h : Int) (a a' : Option Addr) (cap cap' : Nat) (k d : List Int) (w : World) (hx : Sl .u8 w a cap k) (hy : Sl .u8 w a' cap' d) (ux : U8 k) (uy : U8 d) (hl : k.length + d.length ≤ 140737488350000) (ht : RefTabs w) :
    Calls Tryd.prog 41 #[.int .i64 h, .slice a k.length cap, .slice a' d.length cap'] w (BytesPost (hmac h k d) w) := by
  by_cases hh : IsHash h
  · have hsb := hh.size_le
    have g0 : ((shaBlock h : Int) == 0) = false := beq_false_of_ne (by omega)
    obtain ⟨B, hB1⟩ : ∃ B, B = shaBlock h := ⟨_, rfl⟩
    have bl := rBlock5_c h w
    rw [← hB1] at g0 hsb bl
    have HB1 := Lib.hid hB1
    clear hB1
    go_enter Tryd.func41, Tryd.ntmps41
    go_wp2_with fail
    refine bl.mono ?_; rintro e w' ⟨rfl, rfl⟩
    clear bl
    have hx0 := hx
    have hy0 := hy
    have ht0 := ht
    have hB := Below.refl w.heap.size w
    go_wp2_with fail
    refine (rFilled_c h 54 a cap k _ hx ux (by omega) ht).mono ?_; rintro e w1 ⟨vI, rfl, nI, hb⟩
    replace hx := hx.below hb
    replace hy := hy.below hb
    replace ht := ht.below hb
    replace hB := hB.trans (hb.mono hB.size)
    have hbI := hb
    clear hb
    obtain ⟨aI, cI, rfl, sI⟩ := nI.sl
    obtain ⟨zI, hI⟩ : ∃ z, z = hfill h k 54 := ⟨_, rfl⟩
    rw [← hI] at sI ⊢
    have uI : U8 zI := by rw [hI]; exact hfill_u8 _ _ _
    have lI : zI.length ≤ B := by rw [hI]; rw [hfill_len _ _ hh, HB1.out]; exact Nat.le_refl _
    have eI := Lib.hid hI
    clear hI
    rw [← eI.out] at nI
    have nA0 : New w.heap.size .u8 5 w1 (.slice aI zI.length cI) (zI ++ d.take 0) := by rw [List.take_zero, List.append_nil]; exact nI
    have hB0 := hB
    clear nI sI hx hy ht hB
    go_wp2_with fail
    go_loopw [7, 8] (fun v t wr => ∃ i : Nat, i ≤ d.length ∧ t = .int .i64 (i : Int) ∧ New w.heap.size .u8 5 wr v (zI ++ d.take i) ∧ Below w.heap.size w wr)
      (fun _ t _ => d.length - (intOf t).toNat)
    case atStart => exact ⟨0, by omega, rfl, nA0, hB0⟩
    case round =>
      clear nA0 hB0
      obtain ⟨i, hi, rfl, hv, hb⟩ := hrel
      have hbs := hb.size
      obtain ⟨l, hl1⟩ : ∃ l, l = zI ++ d.take i := ⟨_, rfl⟩
      rw [← hl1] at hv
      have HL : Hid (l.length ≤ 128 + d.length) := Lib.hid (by rw [hl1]; simp; omega)
      have HL1 := Lib.hid hl1
      clear hl1
      by_cases hlt : i < d.length
      · have fin : Hid (l ++ [nth d i] = zI ++ d.take (i + 1)) := Lib.hid (by rw [HL1.out]; rw [take_succ_nth _ _ hlt, List.append_assoc])
        have hlp := hlt
        obtain ⟨b, off, eaa, hc⟩ := (hy0.below hb).cells (by omega)
        subst eaa
        have c0 := hc i hlp
        clear hc hlp
        have hd1 : decide ((i : Int) < (d.length : Int)) = true := decide_eq_true (by omega)
        go_wp2_with (at_builtin; refine wpList_append_new _ rfl _ _ 29 rfl w.heap.size 5 .u8 1 Tryd.underlying29 info8s _ _ rfl (hv.alloc _) _ _ 1 [nth d i] rfl rfl (cells_one _ _ _ _ _ rfl) (by have := HL.out; simp; omega) (by have := HL.out; simp; omega) (by simp; omega) ?_)
        intro v' w' hv' hg' _
        have hlt1 := fun g hg => (hv.lt g hg).1
        have hb' : Below w.heap.size w w' := (hb.alloc hbs _).grown hg' (by simp; omega) hlt1
        rw [fin.out] at hv'
        clear hv hg' hb
        go_wp2_with fail
        go_roundw
        case rel => exact ⟨i + 1, by omega, by go_num, hv', hb'⟩
        case measure => simp [intOf]; omega
      · obtain rfl : d.length = i := by omega
        have hd1 : decide ((d.length : Int) < (d.length : Int)) = false := by simp
        obtain ⟨wo, hwo⟩ : ∃ wo : World, wo = wr := ⟨_, rfl⟩
        subst hwo
        obtain ⟨aL, cL, rfl, sL⟩ := hv.sl
        have uL : U8 l := by rw [HL1.out]; exact uI.append (by omega) (uy.take (by omega) _)
        have lL := HL.out
        have hx := hx0.below hb
        have hy := hy0.below hb
        have ht := ht0.below hb
        have hB := hb
        clear hv hb HL hbs hd1 hlt hi
        go_wp2_with fail
        refine (rSum_c h aL cL l _ sL uL (by omega) ht).mono ?_; rintro e w2 ⟨vN, rfl, nN, hb⟩
        replace hx := hx.below hb
        replace hy := hy.below hb
        replace ht := ht.below hb
        replace hB := hB.trans (hb.mono hB.size)
        clear hb
        obtain ⟨aN, cN, rfl, sN⟩ := nN.sl
        clear nN
        obtain ⟨zN, hN⟩ : ∃ z, z = sha h l := ⟨_, rfl⟩
        rw [← hN] at sN ⊢
        have uN : U8 zN := by rw [hN]; exact sha_u8 _ _
        have lN : zN.length ≤ 64 := by rw [hN]; rw [sha_len]; exact shaSize_le h
        have eN := Lib.hid hN
        clear hN
        have eN2 : Hid (zN = sha h (zI ++ d)) := Lib.hid (by rw [eN.out, HL1.out, List.take_length])
        clear sL HL1 eN
        have sN0 := sN
        have ht1 := ht
        have hB1 := hB
        go_wp2_with fail
        refine (rFilled_c h 92 a cap k _ hx ux (by omega) ht).mono ?_; rintro e w3 ⟨vO, rfl, nO, hb⟩
        replace hx := hx.below hb
        replace hy := hy.below hb
        replace ht := ht.below hb
        replace sN := sN.below hb
        replace hB := hB.trans (hb.mono hB.size)
        have hbO := hb
        clear hb
        obtain ⟨aO, cO, rfl, sO⟩ := nO.sl
        obtain ⟨zO, hO⟩ : ∃ z, z = hfill h k 92 := ⟨_, rfl⟩
        rw [← hO] at sO ⊢
        have uO : U8 zO := by rw [hO]; exact hfill_u8 _ _ _
        have lO : zO.length ≤ B := by rw [hO]; rw [hfill_len _ _ hh, HB1.out]; exact Nat.le_refl _
        have eO := Lib.hid hO
        clear hO
        rw [← eO.out] at nO
        have nC0 : New w2.heap.size .u8 5 w3 (.slice aO zO.length cO) (zO ++ zN.take 0) := by rw [List.take_zero, List.append_nil]; exact nO
        have hbC : Below w2.heap.size w2 w3 := hbO
        clear nO sO hx hy ht hB sN
        go_wp2_with fail
        go_loopw [10, 11] (fun v t wr => ∃ i : Nat, i ≤ zN.length ∧ t = .int .i64 (i : Int) ∧ New w2.heap.size .u8 5 wr v (zO ++ zN.take i) ∧ Below w2.heap.size w2 wr)
          (fun _ t _ => zN.length - (intOf t).toNat)
        case atStart => exact ⟨0, by omega, rfl, nC0, hbC⟩
        case round =>
          clear nC0 hbC
          obtain ⟨i, hi, rfl, hv, hb⟩ := hrel
          have hbs := hb.size
          obtain ⟨l, hl1⟩ : ∃ l, l = zO ++ zN.take i := ⟨_, rfl⟩
          rw [← hl1] at hv
          have HL : Hid (l.length ≤ 192) := Lib.hid (by rw [hl1]; simp; omega)
          have HL1 := Lib.hid hl1
          clear hl1
          by_cases hlt : i < zN.length
          · have fin : Hid (l ++ [nth zN i] = zO ++ zN.take (i + 1)) := Lib.hid (by rw [HL1.out]; rw [take_succ_nth _ _ hlt, List.append_assoc])
            have hlp := hlt
            obtain ⟨b, off, eaa, hc⟩ := (sN0.below hb).cells (by omega)
            subst eaa
            have c0 := hc i hlp
            clear hc hlp
            have hd1 : decide ((i : Int) < (zN.length : Int)) = true := decide_eq_true (by omega)
            go_wp2_with (at_builtin; refine wpList_append_new _ rfl _ _ 29 rfl w2.heap.size 5 .u8 1 Tryd.underlying29 info8s _ _ rfl (hv.alloc _) _ _ 1 [nth zN i] rfl rfl (cells_one _ _ _ _ _ rfl) (by have := HL.out; simp; omega) (by have := HL.out; simp; omega) (by simp; omega) ?_)
            intro v' w' hv' hg' _
            have hlt1 := fun g hg => (hv.lt g hg).1
            have hb' : Below w2.heap.size w2 w' := (hb.alloc hbs _).grown hg' (by simp; omega) hlt1
            rw [fin.out] at hv'
            clear hv hg' hb
            go_wp2_with fail
            go_roundw
            case rel => exact ⟨i + 1, by omega, by go_num, hv', hb'⟩
            case measure => simp [intOf]; omega
          · obtain rfl : zN.length = i := by omega
            have hd1 : decide ((zN.length : Int) < (zN.length : Int)) = false := by simp
            obtain ⟨wp, hwp⟩ : ∃ wp : World, wp = wr := ⟨_, rfl⟩
            subst hwp
            obtain ⟨aM, cM, rfl, sM⟩ := hv.sl
            obtain ⟨zM, hzM⟩ : ∃ z, z = l := ⟨_, rfl⟩
            have uM : U8 l := by rw [HL1.out]; exact uO.append (by omega) (uN.take (by omega) _)
            have lM := HL.out
            have ht := ht1.below hb
            have hB := hB1.trans (hb.mono hB1.size)
            clear hv hb HL hbs hd1 hlt hi
            go_wp2_with fail
            refine (rSum_c h aM cM _ _ sM uM (by omega) ht).mono ?_; rintro e wz ⟨v, rfl, hv, hbz⟩
            have fin := hv.mono hB.size
            have hBz := hB.trans (hbz.mono hB.size)
            rw [HL1.out, List.take_length] at fin
            clear hv hbz
            go_wp2_with fail
            go_ret
            refine ⟨v, rfl, ?_, hBz⟩
            rw [hmac_is hh]
            rw [← eI.out, ← eO.out, ← eN2.out]
            exact fin
  · have bl := rBlock5_c h w
    rw [shaBlock_no hh] at bl
    go_enter Tryd.func41, Tryd.ntmps41
    go_wp2_with fail
    refine bl.mono ?_; rintro e w' ⟨rfl, rfl⟩
    go_wp2_with fail
    go_ret
    exact ⟨_, rfl, by rw [hmac_no hh]; exact .nil _ _ _ _, .refl _ _⟩

set_option maxHeartbeats 2000000 in
theorem rEqual_c (a a' : Option Addr) (cap cap' : Nat) (xs ys : List Int) (w : World) (hx : Sl .u8 w a cap xs) (hy : Sl .u8 w a' cap' ys) (ux : U8 xs) (uy : U8 ys) :
    Calls Tryd.prog 49 #[.slice a xs.length cap, .slice a' ys.length cap'] w (TellPost (decide (xs = ys)) w) := by
  have mx := Nat.le_trans hx.le hx.max
  have my := Nat.le_trans hy.le hy.max
  by_cases hl : xs.length = ys.length
  · obtain ⟨n, hn⟩ : ∃ n, n = xs.length := ⟨_, rfl⟩
    have HN := Lib.hid hn
    have HM : Hid (n = ys.length) := Lib.hid (by omega)
    have hne : ((n : Int) != (n : Int)) = false := by simp
    rw [← hl, ← hn]
    rw [← hn] at mx
    clear hn hl my
    go_enter Tryd.func49, Tryd.ntmps49
    go_wp2_with fail
    clear hne
    go_loopw [5] (fun t wr => ∃ i : Nat, i ≤ n ∧ t = .int .i64 (i : Int) ∧ xs.take i = ys.take i ∧ Dr w wr) (fun t _ => n - (intOf t).toNat)
    case atStart => exact ⟨0, by omega, rfl, by simp, .refl _⟩
    case round =>
      obtain ⟨i, hi, rfl, he, nd, rfl⟩ := hrel
      have HE := Lib.hid he
      clear he
      by_cases hlt : i < n
      · obtain ⟨b, off, rfl, hc⟩ := hx.cells (by have := HN.out; omega)
        obtain ⟨b', off', rfl, hc'⟩ := hy.cells (by have := HM.out; omega)
        have c0 := hc i (by have := HN.out; omega)
        have c1 := hc' i (by have := HM.out; omega)
        obtain ⟨p, hp⟩ : ∃ p, p = nth xs i := ⟨_, rfl⟩
        obtain ⟨q, hq⟩ : ∃ q, q = nth ys i := ⟨_, rfl⟩
        rw [← hp] at c0
        rw [← hq] at c1
        have hd : decide ((i : Int) < (n : Int)) = true := decide_eq_true (by omega)
        by_cases hpq : p = q
        · have he : Hid (xs.take (i + 1) = ys.take (i + 1)) := Lib.hid (by
            rw [take_succ_nth _ _ (by have := HN.out; omega), take_succ_nth _ _ (by have := HM.out; omega), HE.out, ← hp, ← hq, hpq])
          have g1 : (p != q) = false := by simp [hpq]
          clear hc hc' hp hq hpq hd
          go_wp2_with fail
          go_quiet (fail)
          go_wp2_with fail
          go_roundw
          case rel => exact ⟨i + 1, by omega, by go_num, he.out, (by repeat (first | exact Dr.refl _ | apply Dr.drewN))⟩
          case measure => simp [intOf]; omega
        · have e : Hid (decide (xs = ys) = false) := Lib.hid (decide_eq_false fun e => hpq (by rw [hp, hq, e]))
          have g1 : (p != q) = true := by simp [hpq]
          clear hc hc' hp hq hpq hd
          go_wp2_with fail
          go_quiet (fail)
          go_wp2_with fail
          go_ret
          exact ⟨by rw [e.out]; first | done | rfl, (by repeat (first | exact Below.refl _ _ | apply below_drewN))⟩
      · obtain rfl : i = n := by omega
        have e : Hid (decide (xs = ys) = true) := Lib.hid (decide_eq_true (by
          have := HE.out
          rwa [List.take_of_length_le (by have := HN.out; omega), List.take_of_length_le (by have := HM.out; omega)] at this))
        go_wp2_with fail
        go_ret
        exact ⟨by rw [e.out]; first | done | rfl, (by repeat (first | exact Below.refl _ _ | apply below_drewN))⟩
  · have hne : ((xs.length : Int) != (ys.length : Int)) = true := by simp; omega
    have e : Hid (decide (xs = ys) = false) := Lib.hid (decide_eq_false fun e => hl (by rw [e]))
    clear hl
    go_enter Tryd.func49, Tryd.ntmps49
    go_wp2_with fail
    go_ret
    exact ⟨by rw [e.out]; first | done | rfl, .refl _ _⟩

theorem rCheck_c (h : Int) (a a' a'' : Option Addr) (cap cap' cap'' : Nat) (k d t : List Int) (w : World) (hx : Sl .u8 w a cap k) (hy : Sl .u8 w a' cap' d) (hz : Sl .u8 w a'' cap'' t) (ux : U8 k) (uy : U8 d) (uz : U8 t) (hl : k.length + d.length ≤ 140737488350000) (ht : RefTabs w) :
    Calls Tryd.prog 48 #[.int .i64 h, .slice a k.length cap, .slice a' d.length cap', .slice a'' t.length cap''] w (TellPost (decide (IsHash h ∧ hmac h k d = t)) w) := by
  have sz := rBlock5_c h w
  by_cases hh : IsHash h
  · obtain ⟨z, hz'⟩ : ∃ z, z = shaBlock h := ⟨_, rfl⟩
    have hz0 : 0 < z := by rw [hz']; exact (by have := hh.size_le; omega)
    rw [← hz'] at sz
    have e0 : decide ((0 : Int) < (z : Int)) = true := decide_eq_true (by omega)
    have ee : Hid (decide (IsHash h ∧ hmac h k d = t) = decide (hmac h k d = t)) := Lib.hid (by simp [hh])
    clear hz'
    go_enter Tryd.func48, Tryd.ntmps48
    go_wp2_with fail
    refine sz.mono ?_; rintro e w' ⟨rfl, rfl⟩
    clear sz
    go_wp2_with fail
    refine (rHmac_c h a a' cap cap' k d w hx hy ux uy hl ht).mono ?_; rintro e w1 ⟨v1, rfl, hv1, hb1⟩
    obtain ⟨a1, c1, rfl, s1⟩ := hv1.sl
    have hz1 := hz.below hb1
    clear hv1
    go_wp2_with fail
    refine (rEqual_c a1 a'' c1 cap'' _ t w1 s1 hz1 (hmac_u8 _ _ _) uz).mono ?_; rintro e w2 ⟨rfl, hb2⟩
    have hB := hb1.trans (hb2.mono hb1.size)
    clear s1 hz1 hb1 hb2
    go_wp2_with fail
    go_ret
    exact ⟨by rw [ee.out]; first | done | rfl, hB⟩
  · rw [shaBlock_no hh] at sz
    have ee : Hid (decide (IsHash h ∧ hmac h k d = t) = false) := Lib.hid (decide_eq_false fun e => hh e.1)
    go_enter Tryd.func48, Tryd.ntmps48
    go_wp2_with fail
    refine sz.mono ?_; rintro e w' ⟨rfl, rfl⟩
    go_wp2_with fail
    go_ret
    exact ⟨by rw [ee.out]; first | done | rfl, .refl _ _⟩


end Go.Proofs.YtiiedgbdooamaaaDoor
