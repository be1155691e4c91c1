/- signetlaw9: rekeyed, RsaKeys, by their contracts. -/
import Derived.Test.YtadldaidbcdaeaaLawNineB
set_option linter.unusedVariables false
set_option linter.unusedSimpArgs false
namespace Go.Proofs.Ytadldaidbcdaeaa
open Go.RowKit Go.Sg

def full : List Int := List.replicate 256 255
def emptied : List Int := 0 :: List.replicate 255 255
theorem key_a : keyCode full [3] = 0 := keyCode_ok (by unfold keyOk; decide +kernel)
theorem key_b : keyCode full [2] = 90 := keyCode_no (by unfold keyOk; decide +kernel)
theorem key_c : keyCode full [5] = 0 := keyCode_ok (by unfold keyOk; decide +kernel)
theorem key_d : keyCode emptied [5] = 90 := keyCode_no (by unfold keyOk; decide +kernel)
theorem full_len : full.length = 256 := List.length_replicate
theorem emptied_len : emptied.length = 256 := congrArg (· + 1) List.length_replicate
theorem full_u8 : U8 full := .of_mem (by omega) (by intro x hx; have := List.eq_of_mem_replicate hx; omega)
theorem emptied_u8 : U8 emptied := .of_mem (by omega) (by
  intro x hx
  rcases List.mem_cons.1 hx with rfl | hx
  · omega
  · have := List.eq_of_mem_replicate hx; omega)
theorem full_set : full.set 0 0 = emptied := by decide +kernel
theorem fill_step (n i : Nat) (h : i < n) (x : Int) : (List.replicate i x ++ List.replicate (n - i) 0).set i x = List.replicate (i + 1) x ++ List.replicate (n - (i + 1)) 0 := by
  apply ext_nth
  · simp; omega
  · intro j hj
    simp at hj
    rw [nth_set _ _ _ _ (by simp; omega)]
    by_cases e : i = j
    · subst e
      rw [if_pos rfl, nth_append_left _ _ _ (by simp), nth_replicate _ _ _ (by omega)]
    · rw [if_neg e]
      by_cases h2 : j < i
      · rw [nth_append_left _ _ _ (by simpa using h2), nth_append_left _ _ _ (by simp; omega), nth_replicate _ _ _ h2, nth_replicate _ _ _ (by omega)]
      · obtain ⟨k, hk⟩ : ∃ k, j = (List.replicate i x).length + k := ⟨j - i, by simp; omega⟩
        obtain ⟨k', hk'⟩ : ∃ k, j = (List.replicate (i + 1) x).length + k := ⟨j - i - 1, by simp; omega⟩
        conv => lhs; rw [hk]
        conv => rhs; rw [hk']
        rw [nth_append_right, nth_append_right, nth_replicate0, nth_replicate0]

set_option maxHeartbeats 4000000 in
set_option maxRecDepth 100000 in
theorem rekeyed_c (w : World) : Calls Try.prog 22 #[] w fun e w' => e = .returned (.bool true) ∧ Below w.heap.size w w' := by
  go_enter Try.func22, Try.ntmps22
  go_wp2_with (at_make; refine wpList_make_blk _ rfl _ _ 22 rfl 5 .u8 1 Try.underlying22 info8 256 _ _ rfl rfl rfl rfl (by omega) (by omega) ?_)
  intro w1 hk1 hs1 hb1
  have HS1 := Lib.hid hs1
  clear hs1
  go_wp2_with fail
  go_loopw [2] (fun t wr => ∃ i : Nat, i ≤ 256 ∧ t = .int .i64 (i : Int) ∧ Blk wr w.heap.size .u8 5 (List.replicate i 255 ++ List.replicate (256 - i) 0) ∧ Below w.heap.size w wr)
    (fun t _ => 256 - (intOf t).toNat)
  case atStart => exact ⟨0, by omega, rfl, hk1, hb1⟩
  case round =>
    obtain ⟨i, hi, rfl, hL, hb⟩ := hrel
    by_cases hlt : i < 256
    · have hc := hL.cell i (by simp; omega)
      have hf := hL.free i
      have hL' := hL.set i 255
      rw [fill_step 256 i hlt] at hL'
      clear hL
      go_wp2_with fail
      go_roundw
      case rel => exact ⟨i + 1, by omega, by go_num, hL', hb.setCell (Nat.le_refl _) _⟩
      case measure => simp [intOf]; omega
    · obtain rfl : i = 256 := by omega
      replace hL : Blk wr w.heap.size .u8 5 full := by simpa [full] using hL
      have hbs := hb.size
      have hb2 := hb.alloc hbs (.cells #[.int .u8 3] 5)
      have hn2 := hL.alloc (.cells #[.int .u8 3] 5)
      have he2 : Blk (wr.alloc (.cells #[.int .u8 3] 5)) wr.heap.size .u8 5 [3] := cells_new .u8 wr 5 [3] #[.int .u8 3] rfl _ rfl
      have hne : w.heap.size ≠ wr.heap.size := by have := hL.lt; omega
      have hlt2 : w.heap.size < wr.heap.size := by omega
      have hsn := hn2.sl_full (by rw [full_len]; omega)
      have hse := he2.sl_full (by simp)
      rw [full_len] at hsn
      have FL := Lib.hid full_len
      have hsz2 : (wr.alloc (.cells #[.int .u8 3] 5)).heap.size = wr.heap.size + 1 := by simp
      have HSZ := Lib.hid hsz2
      clear hL hb hsz2
      go_wp2_with fail
      have k1 := Key_c _ _ _ _ full [3] _ hsn hse full_u8 (.one (by omega) (by omega)) (by rw [full_len]; omega) (by simp)
      rw [full_len] at k1
      refine k1.mono ?_; rintro e w2 ⟨rfl, hb3⟩
      rw [key_a]
      have hn3 := hn2.below hb3 hn2.lt
      have he3 := he2.below hb3 he2.lt
      have hb4 := hb2.trans (hb3.mono (by have := HSZ.out; omega))
      have c1 := he3.cell 0 (by simp)
      have f1 := he3.free 0
      have hn4 := hn3.other hne 0 (.int .u8 2)
      have he4 := he3.set 0 2
      have hb5 := hb4.setCell (p := ⟨wr.heap.size, 0, none⟩) hbs (.int .u8 2)
      have hsn := hn4.sl_full (by rw [full_len]; omega)
      have hse := he4.sl_full (by simp)
      rw [full_len] at hsn
      have k2 := Key_c _ _ _ _ full [2] _ hsn hse full_u8 (.one (by omega) (by omega)) (by rw [full_len]; omega) (by simp)
      rw [full_len] at k2
      clear k1 hn2 he2 hn3 he3 hb2 hb4 hb3
      go_wp2_with fail
      refine k2.mono ?_; rintro e w3 ⟨rfl, hb3⟩
      rw [key_b]
      have hn5 := hn4.below hb3 hn4.lt
      have he5 := he4.below hb3 he4.lt
      have hb6 := hb5.trans (hb3.mono hb5.size)
      have c2 := he5.cell 0 (by simp)
      have f2 := he5.free 0
      have hn6 := hn5.other hne 0 (.int .u8 5)
      have he6 := he5.set 0 5
      have hb7 := hb6.setCell (p := ⟨wr.heap.size, 0, none⟩) hbs (.int .u8 5)
      have hsn := hn6.sl_full (by rw [full_len]; omega)
      have hse := he6.sl_full (by simp)
      rw [full_len] at hsn
      have k3 := Key_c _ _ _ _ full [5] _ hsn hse full_u8 (.one (by omega) (by omega)) (by rw [full_len]; omega) (by simp)
      rw [full_len] at k3
      clear k2 hn4 he4 hn5 he5 hb5 hb3 hb6 c1 f1
      go_wp2_with fail
      refine k3.mono ?_; rintro e w4 ⟨rfl, hb3⟩
      rw [key_c]
      have hn7 := hn6.below hb3 hn6.lt
      have he7 := he6.below hb3 he6.lt
      have hb8 := hb7.trans (hb3.mono hb7.size)
      have c3 := hn7.cell 0 (by rw [full_len]; omega)
      have f3 := hn7.free 0
      have hn8 := hn7.set 0 0
      rw [full_set] at hn8
      have he8 := he7.other hne.symm 0 (.int .u8 0)
      have hb9 := hb8.setCell (p := ⟨w.heap.size, 0, none⟩) (Nat.le_refl _) (.int .u8 0)
      have hsn := hn8.sl_full (by rw [emptied_len]; omega)
      have hse := he8.sl_full (by simp)
      rw [emptied_len] at hsn
      have k4 := Key_c _ _ _ _ emptied [5] _ hsn hse emptied_u8 (.one (by omega) (by omega)) (by rw [emptied_len]; omega) (by simp)
      rw [emptied_len] at k4
      clear k3 hn6 he6 hn7 he7 hb7 hb3 hb8 c2 f2
      go_wp2_with fail
      refine k4.mono ?_; rintro e w5 ⟨rfl, hb3⟩
      rw [key_d]
      have hb10 := hb9.trans (hb3.mono hb9.size)
      clear k4 hn8 he8 hb9 hb3 c3 f3
      go_wp2_with fail
      go_ret
      exact ⟨rfl, hb10⟩
end Go.Proofs.Ytadldaidbcdaeaa
