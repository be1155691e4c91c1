import Derived.Test.YtbmdifeanocahaaDoorZ24
import Derived.Test.YtbmdifeanocahaaDoorZ27
import Derived.Test.YtbmdifeanocahaaDoorZ28
import Derived.Test.YtbmdifeanocahaaDoorZ29
/- signetref4.Sum, signetlaw10's roomy, spared, by their contracts. -/
set_option linter.unusedVariables false
set_option linter.unusedSimpArgs false
namespace Go.Proofs.YtbmdifeanocahaaDoor
open Go.RowKit Go.Sg

theorem rSize_c (h : Int) (w : World) : Calls Tryd.prog 59 #[.int .i64 h] w fun e w' => e = .returned (.int .i64 (shaSize h)) ∧ w = w' := by
  by_cases h1 : h = 1
  · subst h1
    go_enter Tryd.func59, Tryd.ntmps59
    go_wp2
    go_ret
    exact ⟨rfl, rfl⟩
  by_cases h2 : h = 2
  · subst h2
    go_enter Tryd.func59, Tryd.ntmps59
    go_wp2
    go_ret
    exact ⟨rfl, rfl⟩
  by_cases h3 : h = 3
  · subst h3
    go_enter Tryd.func59, Tryd.ntmps59
    go_wp2
    go_ret
    exact ⟨rfl, rfl⟩
  have e : Hid (shaSize h = 0) := Lib.hid (by unfold shaSize; rw [if_neg h1, if_neg h2, if_neg h3])
  have g1 : (h == 1) = false := by simpa using h1
  have g2 : (h == 2) = false := by simpa using h2
  have g3 : (h == 3) = false := by simpa using h3
  clear h1 h2 h3
  go_enter Tryd.func59, Tryd.ntmps59
  go_wp2
  go_ret
  exact ⟨by rw [e.out]; rfl, rfl⟩

theorem long_c (s : S8 64) (a : Option Addr) (cap : Nat) (bs : List Int) (w : World) (hx : Sl .u8 w a cap bs) (ub : U8 bs) (hlen : bs.length ≤ 140737488354000) (ht : RefTabs w) :
    Calls Tryd.prog 92 #[.slice a bs.length cap, .agg (s.list.map v64).toArray] w (BytesPost (sum64 s bs) w) := by
  cases hL : long128 bs.length with
  | true => exact long_more s a cap bs w hx ub hlen hL ht
  | false =>
    by_cases hr : bs.length % 128 < 112
    · exact long_lo s a cap bs w hx ub hlen hL hr ht
    · exact long_hi s a cap bs w hx ub hlen hL (by have h := of_decide_eq_false hL; omega) ht

set_option maxHeartbeats 4000000 in
set_option maxRecDepth 100000 in
theorem rSum_c (h : Int) (a : Option Addr) (cap : Nat) (bs : List Int) (w : World) (hx : Sl .u8 w a cap bs) (ub : U8 bs) (hlen : bs.length ≤ 140737488354000) (ht : RefTabs w) :
    Calls Tryd.prog 65 #[.int .i64 h, .slice a bs.length cap] w (BytesPost (sha h bs) w) := by
  by_cases h1 : h = 1
  · subst h1
    have c := short_c a cap bs w hx ub (by omega) ht
    go_enter Tryd.func65, Tryd.ntmps65
    go_wp2_with fail
    refine c.mono ?_; rintro e w1 ⟨v, rfl, hv, hb⟩
    go_wp2_with fail
    go_ret
    exact ⟨v, rfl, hv, hb⟩
  by_cases h2 : h = 2
  · subst h2
    have c := long_c start384 a cap bs w hx ub hlen ht
    have hr := ht.b384
    go_enter Tryd.func65, Tryd.ntmps65
    go_wp2_with (refine wpList_load_mid rfl 78 (.global 4) rfl 4 0 rfl (start384.list.map v64) _ hr Tryd.underlying78 rfl size8l ?_)
    refine c.mono ?_; rintro e w1 ⟨v, rfl, hv, hb⟩
    obtain ⟨a1, c1, rfl, s1⟩ := hv.sl
    have hc1 := s1.le
    obtain ⟨z, hz⟩ : ∃ z, z = sum64 start384 bs := ⟨_, rfl⟩
    rw [← hz] at hv s1 hc1 ⊢
    have zl : z.length = 64 := by rw [hz, sum64_len]
    have hcut := fun W => cut_h0 (P := Tryd.prog) W 23 5 Tryd.underlying23 size8 a1 z.length c1 48 (by omega)
    have hv2 := hv.head 48 (by omega) (by omega)
    have HZ := Lib.hid hz
    have ZL := Lib.hid zl
    rw [show ((48 : Nat) : Int) = 48 from rfl] at hcut
    clear hz zl hr c
    go_wp2_with fail
    go_ret
    exact ⟨_, rfl, by rw [HZ.out] at hv2; exact hv2, hb⟩
  by_cases h3 : h = 3
  · subst h3
    have c := long_c start512 a cap bs w hx ub hlen ht
    have hr := ht.b512
    go_enter Tryd.func65, Tryd.ntmps65
    go_wp2_with (refine wpList_load_mid rfl 78 (.global 5) rfl 5 0 rfl (start512.list.map v64) _ hr Tryd.underlying78 rfl size8l ?_)
    refine c.mono ?_; rintro e w1 ⟨v, rfl, hv, hb⟩
    go_wp2_with fail
    go_ret
    exact ⟨v, rfl, hv, hb⟩
  have e : Hid (sha h bs = []) := Lib.hid (by unfold sha; rw [if_neg h1, if_neg h2, if_neg h3])
  have g1 : (h == 1) = false := by simpa using h1
  have g2 : (h == 2) = false := by simpa using h2
  have g3 : (h == 3) = false := by simpa using h3
  clear h1 h2 h3
  go_enter Tryd.func65, Tryd.ntmps65
  go_wp2
  go_ret
  exact ⟨_, rfl, by rw [e.out]; exact .nil _ _ _ _, .refl _ _⟩

def RoomPost (xs : List Int) (w : World) (e : Ending) (w' : World) : Prop := ∃ g, e = .returned (.slice (some ⟨g, 0, none⟩) xs.length (xs.length + 9)) ∧ w.heap.size ≤ g ∧ Blk w' g .u8 5 (xs ++ m9) ∧ Below w.heap.size w w'

set_option maxHeartbeats 4000000 in
set_option maxRecDepth 20000 in
theorem roomy_c (a : Option Addr) (cap : Nat) (xs : List Int) (w : World) (hx : Sl .u8 w a cap xs) (hl : xs.length ≤ 140737488350000) :
    Calls Tryd.prog 30 #[.slice a xs.length cap] w (RoomPost xs w) := by
  obtain ⟨n, hn⟩ : ∃ n, n = xs.length := ⟨_, rfl⟩
  have HN := Lib.hid hn
  rw [← hn] at hl ⊢
  clear hn
  go_enter Tryd.func30, Tryd.ntmps30
  go_wp2_with (at_make; refine wpList_make_blk _ rfl _ _ 23 rfl 5 .u8 1 Tryd.underlying23 info8s (n + 9) _ _ rfl rfl (by omega) (by omega) (by omega) (by omega) ?_)
  intro w1 hk1 hs1 hb1
  have hx1 := hx.below hb1
  obtain ⟨G, hG⟩ : ∃ G, G = w.heap.size := ⟨_, rfl⟩
  rw [← hG] at hk1 ⊢
  have hge : w.heap.size ≤ G := by omega
  clear hG hx hs1
  go_wp2_with (with_reducible refine wpList_copy_blk rfl _ _ 23 23 rfl 5 Tryd.underlying23 size8 _ G 0 _ _ _ _ _ rfl rfl .u8 _ xs hk1 hx1.cells HN.out.symm (fun _ _ => rfl) (by rw [List.length_replicate]; omega) ?_)
  intro w2 hk2 hg2 hs2
  have hb2 : Below w.heap.size w w2 := hb1.grown hg2 (by have := hb1.size; omega) (by simp; omega)
  have hk3 : Blk w2 G .u8 5 (xs ++ (List.replicate 0 165 ++ List.replicate (9 - 0) 0)) := by
    have e : xs.take (n + 9) ++ List.replicate (n + 9 - n) (0 : Int) = xs ++ (List.replicate 0 165 ++ List.replicate (9 - 0) 0) := by
      rw [List.take_of_length_le (by rw [← HN.out]; omega), show n + 9 - n = 9 by omega]
      rfl
    have h2 := hk2
    rw [← e]
    simpa [Nat.min_eq_left (show n ≤ n + 9 by omega)] using h2
  clear hk1 hk2 hg2 hb1 hs2 hx1
  go_wp2_with fail
  go_loopw [4] (fun t wr => ∃ j : Nat, j ≤ 9 ∧ t = .int .i64 ((n + j : Nat) : Int) ∧ Blk wr G .u8 5 (xs ++ (List.replicate j 165 ++ List.replicate (9 - j) 0)) ∧ Below w.heap.size w wr)
    (fun t _ => n + 9 - (intOf t).toNat)
  case atStart => exact ⟨0, by omega, by rw [Nat.add_zero], hk3, hb2⟩
  case round =>
    clear hk3 hb2
    obtain ⟨j, hj, rfl, hk, hb⟩ := hrel
    obtain ⟨i, hi⟩ : ∃ i, i = n + j := ⟨_, rfl⟩
    rw [← hi]
    have HI := Lib.hid hi
    by_cases hlt : j < 9
    · have ll : (xs ++ (List.replicate j (165 : Int) ++ List.replicate (9 - j) 0)).length = n + 9 := by simp [HN.out]; omega
      have c0 := hk.cell i (by rw [ll]; omega)
      have f0 := hk.free i
      have hs := hk.set i 165
      have fin : Hid ((xs ++ (List.replicate j 165 ++ List.replicate (9 - j) 0)).set i 165 = xs ++ (List.replicate (j + 1) 165 ++ List.replicate (9 - (j + 1)) 0)) := Lib.hid (by
        rw [List.set_append_right _ _ (by rw [← HN.out]; omega), ← HN.out, List.set_append_right _ _ (by rw [List.length_replicate]; omega), List.length_replicate, show i - n - j = 0 by omega,
          show 9 - j = (9 - (j + 1)) + 1 by omega, List.replicate_succ (n := 9 - (j + 1)), List.set_cons_zero, List.replicate_succ' (n := j), List.append_assoc]
        rfl)
      rw [fin.out] at hs
      have hb' := hb.setCell (p := ⟨G, i, none⟩) hge (.int .u8 165)
      have hin : (i : Int) < (n : Int) + 9 := by omega
      have hin2 : i < n + 9 := by omega
      have hd1 : decide ((i : Int) < (n : Int) + 9) = true := decide_eq_true hin
      clear hk hb ll hi
      go_wp2_with fail
      go_roundw
      case rel => exact ⟨j + 1, by omega, by have := HI.out; go_num, hs, hb'⟩
      case measure => have := HI.out; simp [intOf]; omega
    · obtain rfl : j = 9 := by omega
      have hkf : Blk wr G .u8 5 (xs ++ m9) := by simpa [m9] using hk
      have hin : ¬ (i : Int) < (n : Int) + 9 := by omega
      have hin2 : ¬ i < n + 9 := by omega
      have hd1 : decide ((i : Int) < (n : Int) + 9) = false := decide_eq_false hin
      have hcut := fun W => cut_h0 (P := Tryd.prog) W 23 5 Tryd.underlying23 size8 (some ⟨G, 0, none⟩) (n + 9) (n + 9) n (by omega)
      clear hk hi
      go_wp2_with fail
      go_ret
      exact ⟨G, by rw [← HN.out]; first | done | rfl, hge, hkf, hb⟩

set_option maxHeartbeats 4000000 in
set_option maxRecDepth 20000 in
theorem spared_c (g : Nat) (a : Option Addr) (cap' : Nat) (xs : List Int) (w : World) (hk : Blk w g .u8 5 (xs ++ m9)) (hx : Sl .u8 w a cap' xs) (ux : U8 xs) (hl : xs.length ≤ 140737488350000) :
    Calls Tryd.prog 33 #[.slice (some ⟨g, 0, none⟩) xs.length (xs.length + 9), .slice a xs.length cap'] w (TellPost true w) := by
  have cm := same10_c _ _ _ _ _ _ w (blk_sl hk hl) hx ux ux
  rw [show decide (xs = xs) = true from decide_eq_true rfl] at cm
  have cells : ∀ j, j < 9 → w.cell? ⟨g, xs.length + j, none⟩ = some (.int .u8 165) := fun j hj => by
    rw [hk.cell (xs.length + j) (by rw [List.length_append, m9_len]; omega), nth_append_right]
    unfold m9
    rw [nth_replicate _ _ _ hj]
  have hcut := fun W => cut_h0 (P := Tryd.prog) W 23 5 Tryd.underlying23 size8 (some ⟨g, 0, none⟩) xs.length (xs.length + 9) (xs.length + 9) (by omega)
  obtain ⟨n, hn⟩ : ∃ n, n = xs.length := ⟨_, rfl⟩
  rw [← hn] at cm hl hcut ⊢
  have e9 : ((n + 9 : Nat) : Int) = (n : Int) + 9 := by omega
  rw [e9] at hcut
  have CELLS := Lib.hid cells
  have HN := Lib.hid hn
  clear cells hn e9
  go_enter Tryd.func33, Tryd.ntmps33
  go_wp2_with fail
  go_loopw [6] (fun t wr => ∃ j : Nat, j ≤ 9 ∧ t = .int .i64 ((n + j : Nat) : Int) ∧ wr = w) (fun t _ => n + 9 - (intOf t).toNat)
  case atStart => exact ⟨0, by omega, by rw [Nat.add_zero], rfl⟩
  case round =>
    obtain ⟨j, hj, rfl, hww⟩ := hrel
    subst hww
    obtain ⟨i, hi⟩ : ∃ i, i = n + j := ⟨_, rfl⟩
    rw [← hi]
    have HI := Lib.hid hi
    by_cases hlt : j < 9
    · have c0 := CELLS.out j hlt
      rw [← HN.out, ← hi] at c0
      have hin : (i : Int) < (n : Int) + 9 := by omega
      have hin2 : i < n + 9 := by omega
      have hd1 : decide ((i : Int) < (n : Int) + 9) = true := decide_eq_true hin
      clear hi cm hcut
      go_wp2_with fail
      go_roundw
      case rel => exact ⟨j + 1, by omega, by have := HI.out; go_num, by trivial⟩
      case measure => have := HI.out; simp [intOf]; omega
    · obtain rfl : j = 9 := by omega
      have hin : ¬ (i : Int) < (n : Int) + 9 := by omega
      have hin2 : ¬ i < n + 9 := by omega
      have hd1 : decide ((i : Int) < (n : Int) + 9) = false := decide_eq_false hin
      clear hi
      go_wp2_with fail
      refine cm.mono ?_; rintro e w1 ⟨rfl, hb⟩
      go_wp2_with fail
      go_ret
      exact ⟨rfl, hb⟩

end Go.Proofs.YtbmdifeanocahaaDoor
