import Derived.Test.YtbmdifeanocahaaDoorZ24
import Derived.Test.YtbmdifeanocahaaDoorZ30
/- signetref10.top, second, by their contracts. (Printed by gen_pssc.py.) -/
set_option linter.unusedVariables false
set_option linter.unusedSimpArgs false
namespace Go.Proofs.YtbmdifeanocahaaDoor
open Go.RowKit Go.Sg

theorem rtop_c (b : Nat) (hb : b ≤ 65536) (w : World) : Calls Tryd.prog 100 #[.int .i64 (b : Int)] w fun e w' => e = .returned (.int .i64 (((8 - b % 8) % 8 : Nat) : Int)) ∧ w = w' := by
  obtain ⟨r, hr⟩ : ∃ r, r = b % 8 := ⟨_, rfl⟩
  have r8 : r < 8 := by omega
  have e0 : Int.tmod (b : Int) 8 = (r : Int) := by rw [Int.tmod_eq_emod_of_nonneg (by omega)]; omega
  have e1 : (b : Int) % 8 = (r : Int) := by omega
  have e2 : (8 - (r : Int)).tmod 8 = (((8 - r) % 8 : Nat) : Int) := by rw [Int.tmod_eq_emod_of_nonneg (by omega)]; omega
  have e3 : (8 - (r : Int)) % 8 = (((8 - r) % 8 : Nat) : Int) := by omega
  obtain ⟨k, hk⟩ : ∃ k, k = (8 - r) % 8 := ⟨_, rfl⟩
  rw [← hk] at e2 e3
  rw [← hr, ← hk]
  clear hr hk
  go_enter Tryd.func100, Tryd.ntmps100
  go_wp2_with fail
  go_ret
  exact ⟨rfl, rfl⟩

set_option maxHeartbeats 2000000 in
theorem rsecond_c (h : Int) (a a' : Option Addr) (cap cap' : Nat) (d s : List Int) (w : World) (hx : Sl .u8 w a cap d) (hy : Sl .u8 w a' cap' s) (ux : U8 d) (uy : U8 s) (hl : d.length + s.length ≤ 2097152) (ht : RefTabs w) :
    Calls Tryd.prog 99 #[.int .i64 h, .slice a d.length cap, .slice a' s.length cap'] w (BytesPost (encSum h d s) w) := by
  go_enter Tryd.func99, Tryd.ntmps99
  go_wp2_with (at_make; refine wpList_make_blk _ rfl _ _ 23 rfl 5 .u8 1 Tryd.underlying23 info8s 8 _ _ rfl rfl (by omega) (by omega) (by omega) (by omega) ?_)
  intro w1 hk1 hs1 hb1
  have n1 : New w.heap.size .u8 5 w1 (.slice (some ⟨w.heap.size, 0, none⟩) 8 8) z8 := New.of_blk hk1 (Nat.le_refl _) 8 8 (Nat.le_refl _) (by simp) (by omega)
  have hx1 := hx.below hb1
  have hb1s := hb1.size
  clear hk1 hs1
  go_wp2_with (at_builtin; refine wpList_append_new _ rfl _ _ 23 rfl w.heap.size 5 .u8 1 Tryd.underlying23 info8s _ z8 rfl n1 _ _ _ d rfl rfl hx1.cells (by simp [z8]; omega) (by simp [z8]; omega) hb1s ?_)
  intro v2 w2 n2 g2 _
  have hlt1 := fun g hg => (n1.lt g hg).1
  have hb2 : Below w.heap.size w w2 := hb1.grown g2 hb1s hlt1
  have hy2 := hy.below hb2
  have hb2s := hb2.size
  clear n1 g2 hlt1 hx1
  go_wp2_with (at_builtin; refine wpList_append_new _ rfl _ _ 23 rfl w.heap.size 5 .u8 1 Tryd.underlying23 info8s _ (z8 ++ d) rfl n2 _ _ _ s rfl rfl hy2.cells (by simp [z8]; omega) (by simp [z8]; omega) hb2s ?_)
  intro v3 w3 n3 g3 _
  have hlt1 := fun g hg => (n2.lt g hg).1
  have hb3 : Below w.heap.size w w3 := hb2.grown g3 hb2s hlt1
  obtain ⟨a3, c3, rfl, s3⟩ := n3.sl
  obtain ⟨zB, hzB⟩ : ∃ x, x = z8 ++ (d ++ s) := ⟨_, rfl⟩
  rw [← hzB] at s3 ⊢
  have l3 : zB.length ≤ 140737488354000 := by rw [hzB]; simp [z8]; omega
  have u3 : U8 zB := by rw [hzB]; exact z8_u8.append (by omega) (ux.append (by omega) uy)
  have cs := rSum_c h a3 c3 zB w3 s3 u3 l3 (ht.below hb3)
  rw [show sha h zB = encSum h d s by rw [hzB, ← List.append_assoc]; rfl] at cs
  clear n2 n3 g3 hlt1 hzB
  go_wp2_with fail
  refine cs.mono ?_; rintro e w4 ⟨v, rfl, hv, hb⟩
  go_wp2_with fail
  go_ret
  exact ⟨v, rfl, hv.mono hb3.size, hb3.trans (hb.mono hb3.size)⟩
end Go.Proofs.YtbmdifeanocahaaDoor
