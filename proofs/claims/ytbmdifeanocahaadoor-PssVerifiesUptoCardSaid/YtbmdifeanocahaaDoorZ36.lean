import Derived.Test.YtbmdifeanocahaaDoorZ24
import Derived.Test.YtbmdifeanocahaaDoorZ30
/- signetref10.mask, Mask, by their contracts. -/
set_option linter.unusedVariables false
set_option linter.unusedSimpArgs false
namespace Go.Proofs.YtbmdifeanocahaaDoor
open Go.RowKit Go.Sg

set_option maxHeartbeats 8000000 in
set_option maxRecDepth 20000 in
theorem rmask_c (h : Int) (hh : IsHash h) (a : Option Addr) (cap : Nat) (seed : List Int) (n : Nat) (w : World) (hx : Sl .u8 w a cap seed) (ux : U8 seed) (hn : n ≤ 65536) (hl : seed.length ≤ 1048576) (ht : RefTabs w) :
    Calls Tryd.prog 89 #[.int .i64 h, .slice a seed.length cap, .int .i64 (n : Int)] w (BytesPost (maskOf h seed n) w) := by
  obtain ⟨Z, hZ⟩ : ∃ Z, Z = shaSize h := ⟨_, rfl⟩
  have z0 : 0 < Z := by rw [hZ]; exact hh.size_le.2.1
  have z64 : Z ≤ 64 := by rw [hZ]; exact shaSize_le h
  have HZ := Lib.hid hZ
  clear hZ
  go_enter Tryd.func89, Tryd.ntmps89
  go_wp2_with fail
  go_loopw [7, 8] (fun v t wr => ∃ (c : Nat), c ≤ n ∧ t = .int .i64 (c : Int) ∧ New w.heap.size .u8 5 wr v (mgf h seed c) ∧ Below w.heap.size w wr) (fun _ t _ => n - (intOf t).toNat)
  case atStart => exact ⟨0, by omega, rfl, .nil _ _ _ _, .refl _ _⟩
  case round =>
    obtain ⟨c, hc, rfl, hv, hb⟩ := hrel
    have hbs := hb.size
    obtain ⟨aO, cO, rfl, sO⟩ := hv.sl
    obtain ⟨P, hP⟩ : ∃ P, P = c * Z := ⟨_, rfl⟩
    have HP := Lib.hid hP
    obtain ⟨zO, hzO⟩ : ∃ z, z = mgf h seed c := ⟨_, rfl⟩
    have HO := Lib.hid hzO
    rw [← hzO] at hv sO ⊢
    have lO : Hid (zO.length = P) := Lib.hid (by rw [hzO, mgf_len, hP, HZ.out])
    rw [lO.out] at hv ⊢
    clear hP hzO
    by_cases hlt : P < n
    · have hcn : c < n := by
        have h1 := HP.out
        have h2 : c ≤ c * Z := Nat.le_mul_of_pos_right c z0
        omega
      have hin : (P : Int) < (n : Int) := by omega
      have hd1 : decide ((P : Int) < (n : Int)) = true := decide_eq_true hin
      have hxr := hx.below hb
      have htr := ht.below hb
      obtain ⟨x0, hx0⟩ : ∃ x, x = c / 16777216 % 256 := ⟨_, rfl⟩
      obtain ⟨x1, hx1⟩ : ∃ x, x = c / 65536 % 256 := ⟨_, rfl⟩
      obtain ⟨x2, hx2⟩ : ∃ x, x = c / 256 % 256 := ⟨_, rfl⟩
      obtain ⟨x3, hx3⟩ : ∃ x, x = c % 256 := ⟨_, rfl⟩
      have a0 : IntKind.u8.wrap ((c : Int) / 16777216) = (x0 : Int) := by rw [IntKind.wrap_u8', hx0]; omega
      have b0 : (c : Int) / 16777216 % 256 = (x0 : Int) := by rw [hx0]; omega
      have q1 : bits .and .i64 ((c : Int) / 65536) 255 = (x1 : Int) := by rw [i64_and255, hx1]; omega
      have q2 : bits .and .i64 ((c : Int) / 256) 255 = (x2 : Int) := by rw [i64_and255, hx2]; omega
      have q3 : bits .and .i64 (c : Int) 255 = (x3 : Int) := by rw [i64_and255, hx3]; omega
      have a1 : IntKind.u8.wrap (x1 : Int) = (x1 : Int) := by rw [IntKind.wrap_u8']; omega
      have a2 : IntKind.u8.wrap (x2 : Int) = (x2 : Int) := by rw [IntKind.wrap_u8']; omega
      have a3 : IntKind.u8.wrap (x3 : Int) = (x3 : Int) := by rw [IntKind.wrap_u8']; omega
      have ec : Hid (ctr c = [(x0 : Int), (x1 : Int), (x2 : Int), (x3 : Int)]) := Lib.hid (by rw [hx0, hx1, hx2, hx3]; rfl)
      have xb : x1 < 256 ∧ x2 < 256 ∧ x3 < 256 := by omega
      clear hx0 hx1 hx2 hx3
      go_wp2_with (at_builtin; refine wpList_append_new _ rfl _ _ 23 rfl wr.heap.size 5 .u8 1 Tryd.underlying23 info8s _ [] rfl (New.nil _ _ _ _) _ _ _ seed rfl rfl hxr.cells (by simp; omega) (by simp; omega) (Nat.le_refl _) ?_)
      intro v1 w1 n1 g1 _
      have hb1 : Below wr.heap.size wr w1 := (Below.refl _ _).grown g1 (Nat.le_refl _) fun g hg => by simp [Value.ownBlock] at hg
      have n1' : New wr.heap.size .u8 5 w1 v1 seed := by simpa using n1
      have hb1s := hb1.size
      clear n1 g1
      go_wp2_with (at_builtin; refine wpList_append_new _ rfl _ _ 23 rfl wr.heap.size 5 .u8 1 Tryd.underlying23 info8s _ seed rfl (n1'.alloc _) _ _ 4 [(x0 : Int), (x1 : Int), (x2 : Int), (x3 : Int)] rfl rfl (cells_new .u8 _ 5 [(x0 : Int), (x1 : Int), (x2 : Int), (x3 : Int)] _ rfl _ rfl).cells (by simp; omega) (by simp; omega) (by simp; omega) ?_)
      intro v2 w2 n2 g2 _
      have hlt1 := fun g hg => (n1'.lt g hg).1
      have hb2 : Below wr.heap.size wr w2 := (hb1.alloc hb1s _).grown g2 (by simp; omega) hlt1
      rw [← ec.out] at n2
      obtain ⟨aB, cB, rfl, sB⟩ := n2.sl
      obtain ⟨zB, hzB⟩ : ∃ z, z = seed ++ ctr c := ⟨_, rfl⟩
      rw [← hzB] at sB ⊢
      have uB : U8 zB := by rw [hzB]; exact ux.append (by omega) (ctr_u8 c)
      have lB : zB.length ≤ 1048580 := by rw [hzB, List.length_append, show (ctr c).length = 4 from rfl]; omega
      have HB := Lib.hid hzB
      have hb2s := hb2.size
      clear n1' n2 g2 hlt1 hb1 hb1s hzB a0 a1 a2 a3 b0 q1 q2 q3
      go_wp2_with fail
      refine (rSum_c h aB cB zB w2 sB uB (by omega) (htr.below hb2)).mono ?_; rintro e w3 ⟨v3, rfl, n3, hb3⟩
      obtain ⟨aM, cM, rfl, sM⟩ := n3.sl
      obtain ⟨zM, hzM⟩ : ∃ z, z = sha h zB := ⟨_, rfl⟩
      rw [← hzM] at sM ⊢
      have lM : Hid (zM.length = Z) := Lib.hid (by rw [hzM, sha_len, HZ.out])
      have HM := Lib.hid hzM
      have hb30 : Below wr.heap.size wr w3 := hb2.trans (hb3.mono hb2s)
      have hv3 := hv.keep hb30
      have hB3 := hb.trans (hb30.mono hbs)
      have hB3s := hB3.size
      clear n3 hzM hv sB hb2 hb3 hb30 hxr htr sO
      go_wp2_with (at_builtin; refine wpList_append_new _ rfl _ _ 23 rfl w.heap.size 5 .u8 1 Tryd.underlying23 info8s _ zO rfl hv3 _ _ _ zM rfl rfl sM.cells (by rw [lO.out, lM.out]; omega) (by rw [lO.out, lM.out]; omega) hB3s ?_)
      intro v4 w4 n4 g4 _
      have hlt1 := fun g hg => (hv3.lt g hg).1
      have hB4 : Below w.heap.size w w4 := hB3.grown g4 hB3s hlt1
      have n4' : New w.heap.size .u8 5 w4 v4 (mgf h seed (c + 1)) := by
        rw [mgf, ← HB.out, ← HM.out, ← HO.out]; exact n4
      clear n4 g4 hlt1 hv3 hB3 hB3s
      go_wp2_with fail
      go_roundw
      case rel => exact ⟨c + 1, by omega, by go_num, n4', hB4⟩
      case measure => simp [intOf]; omega
    · have hin : ¬ (P : Int) < (n : Int) := by omega
      have hd1 : decide ((P : Int) < (n : Int)) = false := decide_eq_false hin
      have hle := sO.le
      rw [lO.out] at hle
      have hcut := fun W => cut_h0 (P := Tryd.prog) W 23 5 Tryd.underlying23 size8 aO P cO n (by omega)
      have hfin : New w.heap.size .u8 5 wr (.slice aO n cO) (maskOf h seed n) := by
        rcases Nat.eq_zero_or_pos n with e | e
        · subst e
          have e2 : maskOf h seed 0 = [] := by simp [maskOf]
          rw [e2]
          rcases Nat.eq_zero_or_pos P with e3 | e3
          · have e4 : zO = [] := List.eq_nil_of_length_eq_zero (by rw [lO.out]; exact e3)
            rw [e4, e3] at hv
            exact hv
          · have := hv.head 0 (by omega) (by rw [lO.out]; exact e3)
            simpa using this
        · have := hv.head n (by rw [lO.out]; omega) (by rw [lO.out]; omega)
          rw [HO.out, maskOf_eq hh seed c n (by have h1 := HP.out; have h2 := HZ.out; subst h2; omega)] at this
          exact this
      clear hv sO
      go_wp2_with fail
      go_ret
      exact ⟨_, rfl, hfin, hb⟩

end Go.Proofs.YtbmdifeanocahaaDoor
