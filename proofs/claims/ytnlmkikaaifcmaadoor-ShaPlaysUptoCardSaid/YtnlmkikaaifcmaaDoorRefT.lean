/- signetref4.Sum by its contract, for a seat that has neither layer 5 nor signetlaw10. (Cut out of PssT.) -/
import Derived.Test.YtnlmkikaaifcmaaDoorShaKA
import Derived.Test.YtnlmkikaaifcmaaDoorShaKB
import Derived.Test.YtnlmkikaaifcmaaDoorShaKM
import Derived.Test.YtnlmkikaaifcmaaDoorCutH
set_option linter.unusedVariables false
set_option linter.unusedSimpArgs false
namespace Go.Sg
open Go.RowKit
theorem New.head {B : Nat} {k : IntKind} {E : TypeId} {w : World} {a : Option Addr} {n cap : Nat} {xs : List Int} (h : New B k E w (.slice a n cap) xs) (m : Nat) (hm : m ≤ xs.length) (hp : 0 < xs.length) : New B k E w (.slice a m cap) (xs.take m) := by
  rcases h with ⟨hv, rfl⟩ | ⟨g, cp, cs, hv, hg, hh, h1, h2, h3, h4⟩
  · simp at hp
  · simp only [Value.slice.injEq] at hv
    obtain ⟨rfl, rfl, rfl⟩ := hv
    refine .inr ⟨g, cap, cs, ?_, hg, hh, ?_, h2, h3, ?_⟩
    · rw [List.length_take, Nat.min_eq_left hm]
    · rw [List.length_take, Nat.min_eq_left hm]; omega
    · rw [List.length_take, Nat.min_eq_left hm, List.map_take, ← h4, List.take_take, Nat.min_eq_left hm]
theorem sum64_len (s : S8 64) (bs : List Int) : (sum64 s bs).length = 64 := by unfold sum64; rw [flat64_len]; rfl
end Go.Sg
namespace Go.Proofs.YtnlmkikaaifcmaaDoor
open Go.RowKit Go.Sg

theorem rSize_c (h : Int) (w : World) : Calls Tryd.prog 5 #[.int .i64 h] w fun e w' => e = .returned (.int .i64 (shaSize h)) ∧ w = w' := by
  by_cases h1 : h = 1
  · subst h1
    go_enter Tryd.func5, Tryd.ntmps5
    go_wp2
    go_ret
    exact ⟨rfl, rfl⟩
  by_cases h2 : h = 2
  · subst h2
    go_enter Tryd.func5, Tryd.ntmps5
    go_wp2
    go_ret
    exact ⟨rfl, rfl⟩
  by_cases h3 : h = 3
  · subst h3
    go_enter Tryd.func5, Tryd.ntmps5
    go_wp2
    go_ret
    exact ⟨rfl, rfl⟩
  have e : Hid (shaSize h = 0) := Lib.hid (by unfold shaSize; rw [if_neg h1, if_neg h2, if_neg h3])
  have g1 : (h == 1) = false := by simpa using h1
  have g2 : (h == 2) = false := by simpa using h2
  have g3 : (h == 3) = false := by simpa using h3
  clear h1 h2 h3
  go_enter Tryd.func5, Tryd.ntmps5
  go_wp2
  go_ret
  exact ⟨by rw [e.out]; rfl, rfl⟩

theorem long_c (s : S8 64) (a : Option Addr) (cap : Nat) (bs : List Int) (w : World) (hx : Sl .u8 w a cap bs) (ub : U8 bs) (hlen : bs.length ≤ 140737488354000) (ht : RefTabs w) :
    Calls Tryd.prog 18 #[.slice a bs.length cap, .agg (s.list.map v64).toArray] w (BytesPost (sum64 s bs) w) := by
  cases hL : long128 bs.length with
  | true => exact long_more s a cap bs w hx ub hlen hL ht
  | false =>
    by_cases hr : bs.length % 128 < 112
    · exact long_lo s a cap bs w hx ub hlen hL hr ht
    · exact long_hi s a cap bs w hx ub hlen hL (by have h := of_decide_eq_false hL; omega) ht

set_option maxHeartbeats 4000000 in
set_option maxRecDepth 100000 in
theorem rSum_c (h : Int) (a : Option Addr) (cap : Nat) (bs : List Int) (w : World) (hx : Sl .u8 w a cap bs) (ub : U8 bs) (hlen : bs.length ≤ 140737488354000) (ht : RefTabs w) :
    Calls Tryd.prog 12 #[.int .i64 h, .slice a bs.length cap] w (BytesPost (sha h bs) w) := by
  by_cases h1 : h = 1
  · subst h1
    have c := short_c a cap bs w hx ub (by omega) ht
    go_enter Tryd.func12, Tryd.ntmps12
    go_wp2_with fail
    refine c.mono ?_; rintro e w1 ⟨v, rfl, hv, hb⟩
    go_wp2_with fail
    go_ret
    exact ⟨v, rfl, hv, hb⟩
  by_cases h2 : h = 2
  · subst h2
    have c := long_c start384 a cap bs w hx ub hlen ht
    have hr := ht.b384
    go_enter Tryd.func12, Tryd.ntmps12
    go_wp2_with (refine wpList_load_mid rfl 43 (.global 3) rfl 3 0 rfl (start384.list.map v64) _ hr Tryd.underlying43 rfl size8l ?_)
    refine c.mono ?_; rintro e w1 ⟨v, rfl, hv, hb⟩
    obtain ⟨a1, c1, rfl, s1⟩ := hv.sl
    have hc1 := s1.le
    obtain ⟨z, hz⟩ : ∃ z, z = sum64 start384 bs := ⟨_, rfl⟩
    rw [← hz] at hv s1 hc1 ⊢
    have zl : z.length = 64 := by rw [hz, sum64_len]
    have hcut := fun W => cut_h0 (P := Tryd.prog) W 29 5 Tryd.underlying29 size8 a1 z.length c1 48 (by omega)
    have hv2 := hv.head 48 (by omega) (by omega)
    have HZ := Lib.hid hz
    have ZL := Lib.hid zl
    rw [show ((48 : Nat) : Int) = 48 from rfl] at hcut
    clear hz zl hr c
    go_wp2_with fail
    go_ret
    exact ⟨_, rfl, by rw [HZ.out] at hv2; exact hv2, hb⟩
  by_cases h3 : h = 3
  · subst h3
    have c := long_c start512 a cap bs w hx ub hlen ht
    have hr := ht.b512
    go_enter Tryd.func12, Tryd.ntmps12
    go_wp2_with (refine wpList_load_mid rfl 43 (.global 4) rfl 4 0 rfl (start512.list.map v64) _ hr Tryd.underlying43 rfl size8l ?_)
    refine c.mono ?_; rintro e w1 ⟨v, rfl, hv, hb⟩
    go_wp2_with fail
    go_ret
    exact ⟨v, rfl, hv, hb⟩
  have e : Hid (sha h bs = []) := Lib.hid (by unfold sha; rw [if_neg h1, if_neg h2, if_neg h3])
  have g1 : (h == 1) = false := by simpa using h1
  have g2 : (h == 2) = false := by simpa using h2
  have g3 : (h == 3) = false := by simpa using h3
  clear h1 h2 h3
  go_enter Tryd.func12, Tryd.ntmps12
  go_wp2
  go_ret
  exact ⟨_, rfl, by rw [e.out]; exact .nil _ _ _ _, .refl _ _⟩

end Go.Proofs.YtnlmkikaaifcmaaDoor
