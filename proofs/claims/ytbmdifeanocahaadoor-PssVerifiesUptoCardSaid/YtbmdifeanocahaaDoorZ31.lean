import Derived.Test.YtbmdifeanocahaaDoorZ22
import Derived.Test.YtbmdifeanocahaaDoorZ24
import Derived.Test.YtbmdifeanocahaaDoorZ30
/- rsa1.Encode, signetref9.Info, Encode, by their contracts. -/
set_option linter.unusedVariables false
set_option linter.unusedSimpArgs false
namespace Go.Proofs.YtbmdifeanocahaaDoor
open Go.RowKit Go.Sg

theorem known_c (h : Int) (w : World) : Calls Tryd.prog 39 #[.int .i64 h] w fun e w' => e = .returned (.bool (decide (IsHash h))) ∧ w = w' := by
  by_cases h1 : 1 ≤ h
  · have d1 : decide (1 ≤ h) = true := decide_eq_true h1
    by_cases h3 : h ≤ 3
    · have d3 : decide (h ≤ 3) = true := decide_eq_true h3
      have e : Hid (decide (IsHash h) = true) := Lib.hid (decide_eq_true (by unfold IsHash; omega))
      go_enter Tryd.func39, Tryd.ntmps39
      go_wp2_with fail
      go_ret
      exact ⟨by rw [e.out]; first | done | rfl, rfl⟩
    · have d3 : decide (h ≤ 3) = false := decide_eq_false h3
      have e : Hid (decide (IsHash h) = false) := Lib.hid (decide_eq_false (by unfold IsHash; omega))
      go_enter Tryd.func39, Tryd.ntmps39
      go_wp2_with fail
      go_ret
      exact ⟨by rw [e.out]; first | done | rfl, rfl⟩
  · have d1 : decide (1 ≤ h) = false := decide_eq_false h1
    have e : Hid (decide (IsHash h) = false) := Lib.hid (decide_eq_false (by unfold IsHash; omega))
    go_enter Tryd.func39, Tryd.ntmps39
    go_wp2_with fail
    go_ret
    exact ⟨by rw [e.out]; first | done | rfl, rfl⟩
def REncPost (h : Int) (m : List Int) (n : Int) (w : World) (e : Ending) (w' : World) : Prop := ∃ v, e = .returned (.tuple #[v, .int .i64 (rcode h n)]) ∧ New w.heap.size .u8 5 w' v (rres h m n) ∧ Below w.heap.size w w'

set_option maxHeartbeats 8000000 in
set_option maxRecDepth 20000 in
theorem pREncode_c (h n : Int) (a : Option Addr) (cap : Nat) (m : List Int) (w : World) (hx : Sl .u8 w a cap m) (ux : U8 m) (hl : m.length ≤ 2097152) (ht : ShaTabs w) (hi : Infos w) :
    Calls Tryd.prog 12 #[.int .i64 h, .slice a m.length cap, .int .i64 n] w (REncPost h m n w) := by
  have kn := known_c h w
  by_cases hh : IsHash h
  · rw [show decide (IsHash h) = true from decide_eq_true hh] at kn
    obtain ⟨z, hz⟩ : ∃ z, z = shaSize h := ⟨_, rfl⟩
    have z64 : z ≤ 64 := by rw [hz]; exact shaSize_le h
    have HZ := Lib.hid hz
    have uI := infoOf_u8 hh
    obtain ⟨k, rfl⟩ : ∃ k : Nat, h = (k : Int) := ⟨h.toNat, by rcases hh with rfl | rfl | rfl <;> rfl⟩
    have kr : k = 1 ∨ k = 2 ∨ k = 3 := by unfold IsHash at hh; omega
    have k4 : (k : Int) < 4 := by omega
    have k4' : k < 4 := by omega
    have hget : infoStrs[k]? = some (strOfNums (infoOf (k : Int))) := by rcases kr with rfl | rfl | rfl <;> rfl
    obtain ⟨I, hI⟩ : ∃ I, I = infoOf (k : Int) := ⟨_, rfl⟩
    rw [← hI] at uI hget
    have lI : I.length = 19 := by rw [hI]; rfl
    have HI := Lib.hid hI
    obtain ⟨S, hS⟩ : ∃ S, S = strOfNums I := ⟨_, rfl⟩
    rw [← hS] at hget
    have Ssz : S.size = 19 := by rw [hS, str_size, lI]
    have Sc : Lib.strCells S = I.map (Value.int .u8) := by rw [hS]; exact str_cells uI
    have cs := Sum1_c (k : Int) a cap m w hx ux (by omega) ht
    have SC := Lib.hid Sc
    have LI := Lib.hid lI
    clear hz hI hS Sc lI
    by_cases hf : rfits (k : Int) n
    · have er : Hid (rres (k : Int) m n = rOf (k : Int) m n.toNat) := Lib.hid (by unfold rres; rw [if_pos ⟨hh, hf⟩])
      have ec : Hid (rcode (k : Int) n = 0) := Lib.hid (by unfold rcode; rw [if_pos hh, if_pos hf])
      unfold rfits at hf
      rw [← HZ.out] at hf
      obtain ⟨N, rfl⟩ : ∃ N : Nat, n = (N : Int) := ⟨n.toNat, by omega⟩
      have nb : N ≤ 512 := by omega
      have nz : 30 + z ≤ N := by omega
      have d1 : decide ((N : Int) < 22 + (z : Int) + 8) = false := decide_eq_false (by omega)
      have d2 : decide ((512 : Int) < (N : Int)) = false := decide_eq_false (by omega)
      obtain ⟨p, hp⟩ : ∃ p, p + 22 + z = N := ⟨N - 22 - z, by omega⟩
      have x1 : (N : Int) - 3 - 19 - (z : Int) = (p : Int) := by omega
      clear hf
      go_enter Tryd.func12, Tryd.ntmps12
      go_wp2_with fail
      refine kn.mono ?_; rintro e w' ⟨rfl, rfl⟩
      go_wp2_with fail
      refine cs.mono ?_; rintro e w1 ⟨v, rfl, nH, hb1⟩
      obtain ⟨aH, cH, rfl, sH⟩ := nH.sl
      obtain ⟨zH, hzH⟩ : ∃ x, x = sha (k : Int) m := ⟨_, rfl⟩
      rw [← hzH] at sH ⊢
      have lH : Hid (zH.length = z) := Lib.hid (by rw [hzH, sha_len, HZ.out])
      have EH := Lib.hid hzH
      rw [lH.out]
      have ci := hi.below hb1 k S hget
      have b1s := hb1.size
      clear nH hzH kn cs hx ht hi hget
      go_wp2_with (at_make; refine wpList_make_cap _ rfl _ _ 23 rfl 5 .u8 1 Tryd.underlying23 info8s N _ rfl rfl rfl (by omega) (by omega) ?_)
      intro w2 n2 hb2
      have b2s := hb2.size
      go_wp2_with (at_builtin; refine wpList_append_new _ rfl _ _ 23 rfl w1.heap.size 5 .u8 1 Tryd.underlying23 info8s _ [] rfl (n2.alloc _) _ _ 2 [0, 1] rfl rfl (cells_new .u8 _ 5 [0, 1] _ rfl _ rfl).cells (by simp) (by simp) (by simp; omega) ?_)
      intro v3 w3 n3 g3 _
      have hlt1 := fun g hg => (n2.lt g hg).1
      have hb3 : Below w1.heap.size w1 w3 := (hb2.alloc b2s _).grown g3 (by simp; omega) hlt1
      obtain ⟨X0, hX0⟩ : ∃ X : List Int, X = [0, 1] := ⟨_, rfl⟩
      have n3' : New w1.heap.size .u8 5 w3 v3 (X0 ++ List.replicate 0 255) := by rw [hX0]; simpa using n3
      have l0 : X0.length = 2 := by rw [hX0]; rfl
      have HX0 := Lib.hid hX0
      have L0 := Lib.hid l0
      clear n2 n3 g3 hlt1 hb2 b2s hX0 l0
      go_wp2_with fail
      go_loopw [11, 49] (fun v t wr => ∃ j : Nat, j ≤ p ∧ t = .int .i64 (j : Int) ∧ New w1.heap.size .u8 5 wr v (X0 ++ List.replicate j 255) ∧ Below w1.heap.size w1 wr) (fun _ t _ => p - (intOf t).toNat)
      case atStart => exact ⟨0, by omega, rfl, n3', hb3⟩
      case round =>
        clear n3' hb3
        obtain ⟨j, hj, rfl, hv, hb⟩ := hrel
        have hbs := hb.size
        obtain ⟨l, hl1⟩ : ∃ l, l = X0 ++ List.replicate j (255 : Int) := ⟨_, rfl⟩
        rw [← hl1] at hv
        have HLL : Hid (l.length = j + 2) := Lib.hid (by rw [hl1, List.length_append, L0.out, List.length_replicate]; omega)
        have HL1 := Lib.hid hl1
        clear hl1
        by_cases hlt : j < p
        · have hd1 : decide ((j : Int) < (p : Int)) = true := decide_eq_true (by omega)
          have fin : Hid (l ++ [255] = X0 ++ List.replicate (j + 1) 255) := Lib.hid (by rw [HL1.out, List.append_assoc, List.replicate_succ'])
          go_wp2_with (at_builtin; refine wpList_append_new _ rfl _ _ 23 rfl w1.heap.size 5 .u8 1 Tryd.underlying23 info8s _ _ rfl (hv.alloc _) _ _ 1 [255] rfl rfl (cells_one _ _ _ _ _ rfl) (by rw [HLL.out]; simp; omega) (by rw [HLL.out]; simp; omega) (by simp; omega) ?_)
          intro v' w' hv' hg' _
          have hlt1 := fun g hg => (hv.lt g hg).1
          have hb' : Below w1.heap.size w1 w' := (hb.alloc hbs _).grown hg' (by simp; omega) hlt1
          rw [fin.out] at hv'
          clear hv hg' hb
          go_wp2_with fail
          go_roundw
          case rel => exact ⟨j + 1, by omega, by go_num, hv', hb'⟩
          case measure => simp [intOf]; omega
        · obtain rfl : p = j := by omega
          have hd1 : decide ((p : Int) < (p : Int)) = false := by simp
          go_wp2_with (at_builtin; refine wpList_append_new _ rfl _ _ 23 rfl w1.heap.size 5 .u8 1 Tryd.underlying23 info8s _ _ rfl (hv.alloc _) _ _ 1 [0] rfl rfl (cells_one _ _ _ _ _ rfl) (by rw [HLL.out]; simp; omega) (by rw [HLL.out]; simp; omega) (by simp; omega) ?_)
          intro v5 w5 n5 g5 _
          have hlt1 := fun g hg => (hv.lt g hg).1
          have hb5 : Below w1.heap.size w1 w5 := (hb.alloc hbs _).grown g5 (by simp; omega) hlt1
          obtain ⟨X2, hX2⟩ : ∃ X, X = l ++ [(0 : Int)] := ⟨_, rfl⟩
          rw [← hX2] at n5
          have l2 : Hid (X2.length = p + 3) := Lib.hid (by rw [hX2, List.length_append, HLL.out]; simp)
          have HX2 := Lib.hid hX2
          obtain ⟨G, C, rfl, hgB, pre⟩ := n5.pre (by rw [l2.out]; omega)
          rw [l2.out]
          have b5s := hb5.size
          clear hv g5 hlt1 hb hX2
          go_wp2_with (at_builtin; refine wpList_append_string _ rfl _ _ 23 9 rfl w1.heap.size 5 Tryd.underlying23 Tryd.underlying9 info8s G C _ X2 rfl l2.out.symm pre hgB S I rfl SC.out (by rw [l2.out, Ssz]; omega) b5s ?_)
          intro v6 w6 n6 g6
          have hb6 : Below w1.heap.size w1 w6 := hb5.grown g6 b5s (fun g hg => by simp at hg; omega)
          obtain ⟨X3, hX3⟩ : ∃ X, X = X2 ++ I := ⟨_, rfl⟩
          rw [← hX3] at n6
          have l3 : Hid (X3.length = p + 22) := Lib.hid (by rw [hX3, List.length_append, l2.out, LI.out])
          have HX3 := Lib.hid hX3
          have b6s := hb6.size
          have sH6 := sH.below hb6
          clear n5 pre g6 hb5 hX3
          go_wp2_with (at_builtin; refine wpList_append_new _ rfl _ _ 23 rfl w1.heap.size 5 .u8 1 Tryd.underlying23 info8s _ _ rfl n6 _ _ _ zH rfl lH.out.symm sH6.cells (by rw [l3.out, lH.out]; omega) (by rw [l3.out, lH.out]; omega) b6s ?_)
          intro v7 w7 n7 g7 _
          have hlt1 := fun g hg => (n6.lt g hg).1
          have hb7 : Below w1.heap.size w1 w7 := hb6.grown g7 b6s hlt1
          have fin : Hid (X3 ++ zH = rOf (k : Int) m N) := Lib.hid (by
            rw [HX3.out, HX2.out, HL1.out, HX0.out, HI.out, EH.out]
            unfold rOf
            rw [← HZ.out, show N - 22 - z = p by omega]
            simp only [List.append_assoc])
          rw [fin.out] at n7
          have hnew := n7.mono b1s
          have hbf := hb1.trans (hb7.mono b1s)
          clear n6 n7 g7 hlt1
          go_wp2_with fail
          go_ret2
          exact ⟨_, by rw [ec.out]; first | done | rfl, by rw [er.out, Int.toNat_natCast]; exact hnew, hbf⟩
    · have er : Hid (rres (k : Int) m n = []) := Lib.hid (by unfold rres; rw [if_neg fun e => hf e.2])
      have ec : Hid (rcode (k : Int) n = 90) := Lib.hid (by unfold rcode; rw [if_pos hh, if_neg hf])
      unfold rfits at hf
      rw [← HZ.out] at hf
      by_cases hlo : n < 30 + (z : Int)
      · have d1 : decide (n < 22 + (z : Int) + 8) = true := decide_eq_true (by omega)
        clear hf
        go_enter Tryd.func12, Tryd.ntmps12
        go_wp2_with fail
        refine kn.mono ?_; rintro e w' ⟨rfl, rfl⟩
        go_wp2_with fail
        refine cs.mono ?_; rintro e w1 ⟨v, rfl, nH, hb1⟩
        obtain ⟨aH, cH, rfl, sH⟩ := nH.sl
        rw [sha_len, ← HZ.out]
        have ci := hi.below hb1 k S hget
        clear nH sH
        go_wp2_with fail
        go_ret2
        exact ⟨_, by rw [ec.out]; first | done | rfl, by rw [er.out]; exact .nil _ _ _ _, hb1⟩
      · have d1 : decide (n < 22 + (z : Int) + 8) = false := decide_eq_false (by omega)
        have d2 : decide ((512 : Int) < n) = true := decide_eq_true (by omega)
        clear hf
        go_enter Tryd.func12, Tryd.ntmps12
        go_wp2_with fail
        refine kn.mono ?_; rintro e w' ⟨rfl, rfl⟩
        go_wp2_with fail
        refine cs.mono ?_; rintro e w1 ⟨v, rfl, nH, hb1⟩
        obtain ⟨aH, cH, rfl, sH⟩ := nH.sl
        rw [sha_len, ← HZ.out]
        have ci := hi.below hb1 k S hget
        clear nH sH
        go_wp2_with fail
        go_ret2
        exact ⟨_, by rw [ec.out]; first | done | rfl, by rw [er.out]; exact .nil _ _ _ _, hb1⟩
  · rw [show decide (IsHash h) = false from decide_eq_false hh] at kn
    have er : Hid (rres h m n = []) := Lib.hid (by unfold rres; rw [if_neg fun e => hh e.1])
    have ec : Hid (rcode h n = 111) := Lib.hid (by unfold rcode; rw [if_neg hh])
    go_enter Tryd.func12, Tryd.ntmps12
    go_wp2_with fail
    refine kn.mono ?_; rintro e w' ⟨rfl, rfl⟩
    go_wp2_with fail
    go_ret2
    exact ⟨_, by rw [ec.out]; first | done | rfl, by rw [er.out]; exact .nil _ _ _ _, .refl _ _⟩
end Go.Proofs.YtbmdifeanocahaaDoor
/- signetref9.Info, Encode, by their contracts. -/
set_option linter.unusedVariables false
set_option linter.unusedSimpArgs false
namespace Go.Proofs.YtbmdifeanocahaaDoor
open Go.RowKit Go.Sg

set_option maxHeartbeats 4000000 in
theorem Info_c (k : Nat) (hh : IsHash (k : Int)) (w : World) (ht : RefTabs w) : Calls Tryd.prog 77 #[.int .i64 (k : Int)] w (BytesPost (infoOf (k : Int)) w) := by
  have sz := rSize_c (k : Int) w
  obtain ⟨z, hz⟩ : ∃ z, z = shaSize (k : Int) := ⟨_, rfl⟩
  have z64 : z ≤ 64 := by rw [hz]; exact shaSize_le _
  rw [← hz] at sz
  have kr : k = 1 ∨ k = 2 ∨ k = 3 := by unfold IsHash at hh; omega
  have k3 : k ≤ 3 := by omega
  have w1 : IntKind.u8.wrap (17 + (z : Int)) = 17 + (z : Int) := by rw [IntKind.wrap_u8']; omega
  have w2 : IntKind.u8.wrap (k : Int) = (k : Int) := by rw [IntKind.wrap_u8']; omega
  have w3 : IntKind.u8.wrap (z : Int) = (z : Int) := by rw [IntKind.wrap_u8']; omega
  have m1 : (17 + (z : Int)) % 256 = 17 + (z : Int) := by omega
  have m2 : (k : Int) % 256 = (k : Int) := by omega
  have m3 : (z : Int) % 256 = (z : Int) := by omega
  have eI : infoOf (k : Int) = [48, 17 + (z : Int), 48, 13, 6, 9, 96, 134, 72, 1, 101, 3, 4, 2, (k : Int), 5, 0, 4, (z : Int)] := by unfold infoOf; rw [hz]
  have EI := Lib.hid eI
  have lI : (infoOf (k : Int)).length = 19 := rfl
  clear hz kr eI hh
  go_enter Tryd.func77, Tryd.ntmps77
  go_wp2_with fail
  refine sz.mono ?_; rintro e w' ⟨rfl, rfl⟩
  have nw := New.of_blk (cells_new .u8 w 5 [48, 17 + (z : Int), 48, 13, 6, 9, 96, 134, 72, 1, 101, 3, 4, 2, (k : Int), 5, 0, 4, (z : Int)] _ rfl _ rfl) (Nat.le_refl _) 19 19 (Nat.le_refl _) (by simp) (by omega)
  rw [List.take_of_length_le (by simp)] at nw
  go_wp2_with fail
  go_ret
  exact ⟨_, rfl, by rw [EI.out]; exact nw, (Below.refl _ _).alloc (Nat.le_refl _) _⟩

set_option maxHeartbeats 8000000 in
set_option maxRecDepth 20000 in
theorem rREncode_c (h n : Int) (a : Option Addr) (cap : Nat) (m : List Int) (w : World) (hx : Sl .u8 w a cap m) (ux : U8 m) (hl : m.length ≤ 2097152) (ht : RefTabs w) :
    Calls Tryd.prog 47 #[.int .i64 h, .slice a m.length cap, .int .i64 n] w (REncPost h m n w) := by
  by_cases hh : IsHash h
  · obtain ⟨z, hz⟩ : ∃ z, z = shaSize h := ⟨_, rfl⟩
    have z64 : z ≤ 64 := by rw [hz]; exact shaSize_le h
    have HZ := Lib.hid hz
    have uI := infoOf_u8 hh
    obtain ⟨k, rfl⟩ : ∃ k : Nat, h = (k : Int) := ⟨h.toNat, by rcases hh with rfl | rfl | rfl <;> rfl⟩
    have kr : k = 1 ∨ k = 2 ∨ k = 3 := by unfold IsHash at hh; omega
    have c1 : decide ((k : Int) < 1) = false := decide_eq_false (by omega)
    have c3 : decide ((3 : Int) < (k : Int)) = false := decide_eq_false (by omega)
    have ci := Info_c k hh w ht
    obtain ⟨I, hI⟩ : ∃ I, I = infoOf (k : Int) := ⟨_, rfl⟩
    rw [← hI] at uI ci
    have lI : I.length = 19 := by rw [hI]; rfl
    have HI := Lib.hid hI
    have LI := Lib.hid lI
    have cs := fun W (b : Below w.heap.size w W) => rSum_c (k : Int) a cap m W (hx.below b) ux (by omega) (ht.below b)
    have eT : Hid ((I ++ sha (k : Int) m).length = 19 + z) := Lib.hid (by rw [List.length_append, lI, sha_len, hz])
    clear hz hI lI
    have start : True := trivial
    clear start
    by_cases hf : rfits (k : Int) n
    · have er : Hid (rres (k : Int) m n = rOf (k : Int) m n.toNat) := Lib.hid (by unfold rres; rw [if_pos ⟨hh, hf⟩])
      have ec : Hid (rcode (k : Int) n = 0) := Lib.hid (by unfold rcode; rw [if_pos hh, if_pos hf])
      unfold rfits at hf
      rw [← HZ.out] at hf
      obtain ⟨N, rfl⟩ : ∃ N : Nat, n = (N : Int) := ⟨n.toNat, by omega⟩
      have nb : N ≤ 512 := by omega
      have nz : 30 + z ≤ N := by omega
      have d1 : decide ((N : Int) < 19 + (z : Int) + 11) = false := decide_eq_false (by omega)
      have d2 : decide ((512 : Int) < (N : Int)) = false := decide_eq_false (by omega)
      obtain ⟨p, hp⟩ : ∃ p, p + 22 + z = N := ⟨N - 22 - z, by omega⟩
      obtain ⟨q, hq⟩ : ∃ q, q = p + 2 := ⟨_, rfl⟩
      have x1 : (N : Int) - (19 + (z : Int)) - 1 = (q : Int) := by omega
      clear hf
      go_enter Tryd.func47, Tryd.ntmps47
      go_wp2_with fail
      refine ci.mono ?_; rintro e w1 ⟨v, rfl, nI, hb1⟩
      have cs1 := cs w1 hb1
      obtain ⟨aI, cI, hvI, sI⟩ := nI.sl
      subst hvI
      go_wp2_with fail
      refine cs1.mono ?_; rintro e w2 ⟨v, rfl, nH, hb2⟩
      obtain ⟨aH, cH, rfl, sH⟩ := nH.sl
      obtain ⟨zH, hzH⟩ : ∃ x, x = sha (k : Int) m := ⟨_, rfl⟩
      rw [← hzH] at sH eT ⊢
      have lH : Hid (zH.length = z) := Lib.hid (by rw [hzH, sha_len, HZ.out])
      have EH := Lib.hid hzH
      have b1s := hb1.size
      have nI2 := nI.keep hb2
      have hb2' := hb1.trans (hb2.mono b1s)
      have b2s := hb2'.size
      clear nH hzH ci cs1 nI sI hb2 hb1
      go_wp2_with (at_builtin; refine wpList_append_new _ rfl _ _ 23 rfl w.heap.size 5 .u8 1 Tryd.underlying23 info8s _ I rfl nI2 _ _ _ zH rfl rfl sH.cells (by rw [LI.out, lH.out]; omega) (by rw [LI.out, lH.out]; omega) b2s ?_)
      intro v3 w3 nT g3 _
      have hlt1 := fun g hg => (nI2.lt g hg).1
      have hb3 : Below w.heap.size w w3 := hb2'.grown g3 b2s hlt1
      obtain ⟨aT, cT, rfl, sT⟩ := nT.sl
      obtain ⟨T, hT⟩ : ∃ T, T = I ++ zH := ⟨_, rfl⟩
      rw [← hT] at sT eT ⊢
      have HT := Lib.hid hT
      rw [eT.out]
      have b3s := hb3.size
      clear nT nI2 g3 hlt1 hb2' b2s sH hT
      go_wp2_with fail
      have n4 : New w3.heap.size .u8 5 (w3.alloc (.cells #[.int .u8 0, .int .u8 1] 5)) (.slice (some ⟨w3.heap.size, 0, none⟩) 2 2) [0, 1] := by
        have := New.of_blk (cells_new .u8 w3 5 [0, 1] _ rfl _ rfl) (Nat.le_refl _) 2 2 (Nat.le_refl _) (by simp) (by omega)
        simpa using this
      have hb4 : Below w3.heap.size w3 (w3.alloc (.cells #[.int .u8 0, .int .u8 1] 5)) := (Below.refl _ _).alloc (Nat.le_refl _) _
      obtain ⟨X0, hX0⟩ : ∃ X : List Int, X = [0, 1] := ⟨_, rfl⟩
      have n4' : New w3.heap.size .u8 5 (w3.alloc (.cells #[.int .u8 0, .int .u8 1] 5)) (.slice (some ⟨w3.heap.size, 0, none⟩) 2 2) (X0 ++ List.replicate 0 255) := by rw [hX0]; simpa using n4
      have l0 : X0.length = 2 := by rw [hX0]; rfl
      have HX0 := Lib.hid hX0
      have L0 := Lib.hid l0
      clear n4 hX0 l0
      go_loopw [10] (fun v wr => ∃ j : Nat, j ≤ p ∧ New w3.heap.size .u8 5 wr v (X0 ++ List.replicate j 255) ∧ Below w3.heap.size w3 wr) (fun v _ => match v with | .slice _ n _ => p + 2 - n | _ => 0)
      case atStart => exact ⟨0, by omega, n4', hb4⟩
      case round =>
        clear n4' hb4
        obtain ⟨j, hj, hv, hb⟩ := hrel
        have hbs := hb.size
        obtain ⟨l, hl1⟩ : ∃ l, l = X0 ++ List.replicate j (255 : Int) := ⟨_, rfl⟩
        rw [← hl1] at hv
        have HLL : Hid (l.length = j + 2) := Lib.hid (by rw [hl1, List.length_append, L0.out, List.length_replicate]; omega)
        have HL1 := Lib.hid hl1
        clear hl1
        obtain ⟨aO, cO, rfl, sO⟩ := hv.sl
        rw [HLL.out] at hv ⊢
        by_cases hlt : j < p
        · have hd1 : decide ((j : Int) + 2 < (q : Int)) = true := decide_eq_true (by omega)
          have fin : Hid (l ++ [255] = X0 ++ List.replicate (j + 1) 255) := Lib.hid (by rw [HL1.out, List.append_assoc, List.replicate_succ'])
          have lfin : Hid ((X0 ++ List.replicate (j + 1) (255 : Int)).length = j + 3) := Lib.hid (by rw [List.length_append, L0.out, List.length_replicate]; omega)
          go_wp2_with (at_builtin; refine wpList_append_new _ rfl _ _ 23 rfl w3.heap.size 5 .u8 1 Tryd.underlying23 info8s _ _ rfl (hv.alloc _) _ _ 1 [255] rfl rfl (cells_one _ _ _ _ _ rfl) (by rw [HLL.out]; simp; omega) (by rw [HLL.out]; simp; omega) (by simp; omega) ?_)
          intro v' w' hv' hg' _
          have hlt1 := fun g hg => (hv.lt g hg).1
          have hb' : Below w3.heap.size w3 w' := (hb.alloc hbs _).grown hg' (by simp; omega) hlt1
          rw [fin.out] at hv'
          obtain ⟨aN, cN, rfl, sN⟩ := hv'.sl
          rw [lfin.out] at hv' ⊢
          clear hv hg' hb sN sO
          go_wp2_with fail
          go_roundw
          case rel => exact ⟨j + 1, by omega, hv', hb'⟩
          case measure => simp; omega
        · obtain rfl : p = j := by omega
          have hd1 : decide ((p : Int) + 2 < (q : Int)) = false := decide_eq_false (by omega)
          go_wp2_with (at_builtin; refine wpList_append_new _ rfl _ _ 23 rfl w3.heap.size 5 .u8 1 Tryd.underlying23 info8s _ _ rfl (hv.alloc _) _ _ 1 [0] rfl rfl (cells_one _ _ _ _ _ rfl) (by rw [HLL.out]; simp; omega) (by rw [HLL.out]; simp; omega) (by simp; omega) ?_)
          intro v5 w5 n5 g5 _
          have hlt1 := fun g hg => (hv.lt g hg).1
          have hb5 : Below w3.heap.size w3 w5 := (hb.alloc hbs _).grown g5 (by simp; omega) hlt1
          obtain ⟨X2, hX2⟩ : ∃ X, X = l ++ [(0 : Int)] := ⟨_, rfl⟩
          rw [← hX2] at n5
          have l2 : Hid (X2.length = p + 3) := Lib.hid (by rw [hX2, List.length_append, HLL.out]; simp)
          have HX2 := Lib.hid hX2
          have b5s := hb5.size
          have sT5 := sT.below hb5
          clear hv g5 hlt1 hb hX2 sO
          go_wp2_with (at_builtin; refine wpList_append_new _ rfl _ _ 23 rfl w3.heap.size 5 .u8 1 Tryd.underlying23 info8s _ _ rfl n5 _ _ _ T rfl eT.out.symm sT5.cells (by rw [l2.out, eT.out]; omega) (by rw [l2.out, eT.out]; omega) b5s ?_)
          intro v7 w7 n7 g7 _
          have hlt1 := fun g hg => (n5.lt g hg).1
          have hb7 : Below w3.heap.size w3 w7 := hb5.grown g7 b5s hlt1
          have fin : Hid (X2 ++ T = rOf (k : Int) m N) := Lib.hid (by
            rw [HX2.out, HL1.out, HX0.out, HT.out, HI.out, EH.out]
            unfold rOf
            rw [← HZ.out, show N - 22 - z = p by omega]
            simp only [List.append_assoc])
          rw [fin.out] at n7
          have hnew := n7.mono b3s
          have hbf := hb3.trans (hb7.mono b3s)
          clear n5 n7 g7 hlt1
          go_wp2_with fail
          go_ret2
          exact ⟨_, by rw [ec.out]; first | done | rfl, by rw [er.out, Int.toNat_natCast]; exact hnew, hbf⟩
    · have er : Hid (rres (k : Int) m n = []) := Lib.hid (by unfold rres; rw [if_neg fun e => hf e.2])
      have ec : Hid (rcode (k : Int) n = 90) := Lib.hid (by unfold rcode; rw [if_pos hh, if_neg hf])
      unfold rfits at hf
      rw [← HZ.out] at hf
      by_cases hlo : n < 30 + (z : Int)
      · have d1 : decide (n < 19 + (z : Int) + 11) = true := decide_eq_true (by omega)
        clear hf
        go_enter Tryd.func47, Tryd.ntmps47
        go_wp2_with fail
        refine ci.mono ?_; rintro e w1 ⟨v, rfl, nI, hb1⟩
        have cs1 := cs w1 hb1
        obtain ⟨aI, cI, hvI, sI⟩ := nI.sl
        subst hvI
        go_wp2_with fail
        refine cs1.mono ?_; rintro e w2 ⟨v, rfl, nH, hb2⟩
        obtain ⟨aH, cH, rfl, sH⟩ := nH.sl
        obtain ⟨zH, hzH⟩ : ∃ x, x = sha (k : Int) m := ⟨_, rfl⟩
        rw [← hzH] at sH eT ⊢
        have lH : Hid (zH.length = z) := Lib.hid (by rw [hzH, sha_len, HZ.out])
        have EH := Lib.hid hzH
        have b1s := hb1.size
        have nI2 := nI.keep hb2
        have hb2' := hb1.trans (hb2.mono b1s)
        have b2s := hb2'.size
        clear nH hzH ci cs1 nI sI hb2 hb1
        go_wp2_with (at_builtin; refine wpList_append_new _ rfl _ _ 23 rfl w.heap.size 5 .u8 1 Tryd.underlying23 info8s _ I rfl nI2 _ _ _ zH rfl rfl sH.cells (by rw [LI.out, lH.out]; omega) (by rw [LI.out, lH.out]; omega) b2s ?_)
        intro v3 w3 nT g3 _
        have hlt1 := fun g hg => (nI2.lt g hg).1
        have hb3 : Below w.heap.size w w3 := hb2'.grown g3 b2s hlt1
        obtain ⟨aT, cT, rfl, sT⟩ := nT.sl
        obtain ⟨T, hT⟩ : ∃ T, T = I ++ zH := ⟨_, rfl⟩
        rw [← hT] at sT eT ⊢
        have HT := Lib.hid hT
        rw [eT.out]
        have b3s := hb3.size
        clear nT nI2 g3 hlt1 hb2' b2s sH hT
        go_wp2_with fail
        go_ret2
        exact ⟨_, by rw [ec.out]; first | done | rfl, by rw [er.out]; exact .nil _ _ _ _, hb3⟩
      · have d1 : decide (n < 19 + (z : Int) + 11) = false := decide_eq_false (by omega)
        have d2 : decide ((512 : Int) < n) = true := decide_eq_true (by omega)
        clear hf
        go_enter Tryd.func47, Tryd.ntmps47
        go_wp2_with fail
        refine ci.mono ?_; rintro e w1 ⟨v, rfl, nI, hb1⟩
        have cs1 := cs w1 hb1
        obtain ⟨aI, cI, hvI, sI⟩ := nI.sl
        subst hvI
        go_wp2_with fail
        refine cs1.mono ?_; rintro e w2 ⟨v, rfl, nH, hb2⟩
        obtain ⟨aH, cH, rfl, sH⟩ := nH.sl
        obtain ⟨zH, hzH⟩ : ∃ x, x = sha (k : Int) m := ⟨_, rfl⟩
        rw [← hzH] at sH eT ⊢
        have lH : Hid (zH.length = z) := Lib.hid (by rw [hzH, sha_len, HZ.out])
        have EH := Lib.hid hzH
        have b1s := hb1.size
        have nI2 := nI.keep hb2
        have hb2' := hb1.trans (hb2.mono b1s)
        have b2s := hb2'.size
        clear nH hzH ci cs1 nI sI hb2 hb1
        go_wp2_with (at_builtin; refine wpList_append_new _ rfl _ _ 23 rfl w.heap.size 5 .u8 1 Tryd.underlying23 info8s _ I rfl nI2 _ _ _ zH rfl rfl sH.cells (by rw [LI.out, lH.out]; omega) (by rw [LI.out, lH.out]; omega) b2s ?_)
        intro v3 w3 nT g3 _
        have hlt1 := fun g hg => (nI2.lt g hg).1
        have hb3 : Below w.heap.size w w3 := hb2'.grown g3 b2s hlt1
        obtain ⟨aT, cT, rfl, sT⟩ := nT.sl
        obtain ⟨T, hT⟩ : ∃ T, T = I ++ zH := ⟨_, rfl⟩
        rw [← hT] at sT eT ⊢
        have HT := Lib.hid hT
        rw [eT.out]
        have b3s := hb3.size
        clear nT nI2 g3 hlt1 hb2' b2s sH hT
        go_wp2_with fail
        go_ret2
        exact ⟨_, by rw [ec.out]; first | done | rfl, by rw [er.out]; exact .nil _ _ _ _, hb3⟩
  · have er : Hid (rres h m n = []) := Lib.hid (by unfold rres; rw [if_neg fun e => hh e.1])
    have ec : Hid (rcode h n = 111) := Lib.hid (by unfold rcode; rw [if_neg hh])
    by_cases h1 : h < 1
    · have c1 : decide (h < 1) = true := decide_eq_true h1
      go_enter Tryd.func47, Tryd.ntmps47
      go_wp2_with fail
      go_ret2
      exact ⟨_, by rw [ec.out]; first | done | rfl, by rw [er.out]; exact .nil _ _ _ _, .refl _ _⟩
    · have c1 : decide (h < 1) = false := decide_eq_false h1
      have c3 : decide ((3 : Int) < h) = true := decide_eq_true (by unfold IsHash at hh; omega)
      clear hh
      go_enter Tryd.func47, Tryd.ntmps47
      go_wp2_with fail
      go_ret2
      exact ⟨_, by rw [ec.out]; first | done | rfl, by rw [er.out]; exact .nil _ _ _ _, .refl _ _⟩
end Go.Proofs.YtbmdifeanocahaaDoor
