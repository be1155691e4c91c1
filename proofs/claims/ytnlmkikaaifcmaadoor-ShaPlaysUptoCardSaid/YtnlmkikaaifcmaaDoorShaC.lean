/- package sha: block64 by its contract. (Out of block32's text by gen_shac.py.) -/
import Derived.Test.YtnlmkikaaifcmaaDoorShaB
set_option linter.unusedVariables false
set_option linter.unusedSimpArgs false
namespace Go.Sg
theorem getD_mid {α : Type} (A C : List α) (x d : α) (k : Nat) (h : k = A.length) : (A ++ x :: C).getD k d = x := by subst h; simp
theorem set_mid {α : Type} (A C : List α) (x y : α) (k : Nat) (h : k = A.length) : (A ++ x :: C).set k y = A ++ y :: C := by subst h; simp
theorem byte_or (x : BitVec 64) {b : Int} (hb : 0 ≤ b ∧ b ≤ 255) : bits .or .u64 (IntKind.u64.wrap (wi x * 256)) b = wi (x <<< 8 ||| .ofNat 64 b.toNat) := by
  have e : b = wi (BitVec.ofNat 64 b.toNat) := by rw [wi, BitVec.toNat_ofNat]; omega
  have e2 := shl64 x 8
  rw [IntKind.wrap_u64, show (256 : Int) = ((2 ^ 8 : Nat) : Int) from rfl, e2]
  conv => lhs; rw [e]
  exact or64 _ _
end Go.Sg
namespace Go.Proofs.YtnlmkikaaifcmaaDoor
open Go.RowKit Go.Sg

theorem zero80w : (Tryd.prog.info? 52).map (fun i => (i.zero, i.size)) = some (some (.agg (List.replicate 80 (Value.int .u64 0)).toArray), 80) := by kernel_rfl
theorem shr7 (x : BitVec 64) : wi x / (128 : Int) = wi (x >>> 7) := shr_wi x 7
theorem shr6 (x : BitVec 64) : wi x / (64 : Int) = wi (x >>> 6) := shr_wi x 6
theorem index8l (s : S8 64) (k : Nat) (hk : k < 8) (W : World) :
    (Instr.index 43 (.agg #[.int .u64 (wi s.a), .int .u64 (wi s.b), .int .u64 (wi s.c), .int .u64 (wi s.d), .int .u64 (wi s.e), .int .u64 (wi s.f), .int .u64 (wi s.g), .int .u64 (wi s.h)]) (.int .i64 (k : Int))).run Tryd.prog W = .ok (.int .u64 (wi (s.list.getD k 0))) W := by
  rcases (show k = 0 ∨ k = 1 ∨ k = 2 ∨ k = 3 ∨ k = 4 ∨ k = 5 ∨ k = 6 ∨ k = 7 by omega) with rfl | rfl | rfl | rfl | rfl | rfl | rfl | rfl
  all_goals kernel_rfl

def Block64Post (g : Nat) (h : Int) (S : List (BitVec 32)) (L : List (BitVec 64)) (r : List Int) (n : BitVec 64) (w : World) (e : Ending) (w' : World) : Prop :=
  e = .returned (.tuple #[]) ∧ St STy w' g h S (block64 K512 (S8.of L) r 0).list r n ∧ w.grownBy w' (some g)

set_option maxHeartbeats 4000000 in
set_option maxRecDepth 100000 in
theorem block64_c (g : Nat) (h : Int) (S : List (BitVec 32)) (L : List (BitVec 64)) (r : List Int) (n : BitVec 64) (w : World) (hs : St STy w g h S L r n) (ht : ShaTabs w) :
    Calls Tryd.prog 20 #[.pointer (some ⟨g, 0, none⟩)] w (Block64Post g h S L r n w) := by
  go_enter Tryd.func20, Tryd.ntmps20
  go_wp2_with (with_reducible refine wpList_alloc_rw rfl 52 rfl _ _ zero80w ?_)
  intro w1 hk1 hs1 hb1
  have HS1 := Lib.hid hs1
  have hst1 := hs.keep hb1
  have hne : g ≠ w.heap.size := by have := hs.lt; omega
  replace hk1 : Wds .u64 w1 w.heap.size 52 (List.replicate 80 (0 : BitVec 64)) := hk1
  clear hs1
  go_wp2_with fail
  obtain ⟨sz, hsz⟩ : ∃ sz, sz = w.heap.size := ⟨_, rfl⟩
  rw [← hsz] at hk1 hne hb1 ⊢
  have HSZ := Lib.hid hsz
  clear hsz
  go_loopw [22] (fun t wr => ∃ (k : Nat), k ≤ 16 ∧ t = .int .i64 (k : Int) ∧ Wds .u64 wr sz 52 (words64 r 0 k ++ List.replicate (80 - k) 0) ∧ St STy wr g h S L r n ∧ Below sz w wr)
    (fun t _ => 16 - (intOf t).toNat)
  case atStart => exact ⟨0, by omega, rfl, hk1, hst1, hb1⟩
  case round =>
    obtain ⟨k, hk, rfl, hW, hst, hb⟩ := hrel
    by_cases hlt : k < 16
    · have hcut := fun W => cut_array (P := Tryd.prog) W 44 5 128 Tryd.underlying44 size8 g 17 (8 * k) (8 * k + 8) (by omega) (by omega) (by omega) (8 * (k : Int)) (8 * (k : Int) + 8) (by omega) (by omega)
      obtain ⟨m, hm⟩ : ∃ m, m = 128 - 8 * k := ⟨_, rfl⟩
      rw [← hm, show 8 * k + 8 - 8 * k = 8 by omega] at hcut
      have m8 : 8 ≤ m := by omega
      have HM := Lib.hid hm
      have hW0 : Wds .u64 wr sz 52 (words64 r 0 k ++ part64 r (8 * k) 0 :: List.replicate (79 - k) 0) := by
        rw [show 80 - k = (79 - k) + 1 by omega] at hW; exact hW
      obtain ⟨wo, hwo⟩ : ∃ wo : World, wo = wr := ⟨_, rfl⟩
      subst hwo
      clear hm hW
      go_wp2_with fail
      go_loopw [35] (fun t wr => ∃ (j : Nat), j ≤ 8 ∧ t = .int .i64 (j : Int) ∧ Wds .u64 wr sz 52 (words64 r 0 k ++ part64 r (8 * k) j :: List.replicate (79 - k) 0) ∧ St STy wr g h S L r n ∧ Below sz w wr)
        (fun t _ => 8 - (intOf t).toNat)
      case atStart => exact ⟨0, by omega, rfl, hW0, hst, hb⟩
      case round =>
        clear hW0 hst hb
        obtain ⟨j, hj, rfl, hW, hst, hb⟩ := hrel
        by_cases hjl : j < 8
        · have c0 := hst.c_r (8 * k + j) (by omega)
          rw [← Nat.add_assoc] at c0
          have b0 := hst.u8 (8 * k + j)
          have hl := words64_len r 0 k
          have cw := hW.cell k (by rw [List.length_append, hl, List.length_cons, List.length_replicate]; omega)
          rw [getD_mid _ _ _ _ _ hl.symm] at cw
          have fw := hW.free k
          have hW' := hW.set k (part64 r (8 * k) (j + 1))
          rw [set_mid _ _ _ _ _ hl.symm] at hW'
          have hst' := hst.other hne k (.int .u64 (wi (part64 r (8 * k) (j + 1))))
          have hb' := hb.setCell (p := ⟨sz, k, none⟩) (Nat.le_refl _) (.int .u64 (wi (part64 r (8 * k) (j + 1))))
          have hword : _ = wi (part64 r (8 * k) (j + 1)) := byte_or (part64 r (8 * k) j) b0
          have hj8 : (j : Int) < 8 := by omega
          have hk80 : (k : Int) < 80 := by omega
          have hk80' : k < 80 := by omega
          clear hW hst hb hl
          go_wp2_with fail
          go_roundw
          case rel => exact ⟨j + 1, by omega, by go_num, hW', hst', hb'⟩
          case measure => simp [intOf]; omega
        · obtain rfl : j = 8 := by omega
          rw [show ((8 : Nat) : Int) = 8 from rfl]
          have hW' : Wds .u64 wr sz 52 (words64 r 0 (k + 1) ++ List.replicate (80 - (k + 1)) 0) := by
            rw [words64_next, Nat.zero_add, List.append_assoc, show 80 - (k + 1) = 79 - k by omega]
            exact hW
          clear hW
          go_wp2_with fail
          go_roundw
          case rel => exact ⟨k + 1, by omega, by go_num, hW', hst, hb⟩
          case measure => simp [intOf]; omega
    · obtain rfl : k = 16 := by omega
      obtain ⟨W, hW1⟩ : ∃ W, W = words64 r 0 16 ++ List.replicate (80 - 16) (0 : BitVec 64) := ⟨_, rfl⟩
      rw [← hW1] at hW
      have HWl : Hid (W.length = 80) := Lib.hid (by rw [hW1, List.length_append, words64_len, List.length_replicate])
      have HWt : Hid (W.take 16 = words64 r 0 16) := Lib.hid (by rw [hW1, List.take_left' (words64_len _ _ _)])
      clear hW1
      clear hst1 hk1 hb1
      obtain ⟨M, hM⟩ : ∃ M, M = words64 r 0 16 := ⟨_, rfl⟩
      have HM := Lib.hid hM
      have HMl : Hid (M.length = 16) := Lib.hid (by rw [hM, words64_len])
      rw [← hM] at HWt
      clear hM
      rw [show ((16 : Nat) : Int) = 16 from rfl]
      go_wp2_with fail
      go_loopw [6] (fun t wr => ∃ (i : Nat) (W : List (BitVec 64)), 16 ≤ i ∧ i ≤ 80 ∧ t = .int .i64 (i : Int) ∧ W.length = 80 ∧ W.take i = sched64 M (i - 16) ∧ Wds .u64 wr sz 52 W ∧ St STy wr g h S L r n ∧ Below sz w wr)
        (fun t _ => 80 - (intOf t).toNat)
      case atStart => exact ⟨16, W, by omega, by omega, rfl, HWl.out, HWt.out, hW, hst, hb⟩
      case round =>
        clear HWl HWt hW hst hb
        obtain ⟨i, W, hi16, hi, rfl, hWl, hWt, hW, hst, hb⟩ := hrel
        have HWl := Lib.hid hWl
        have HWt := Lib.hid hWt
        clear hWl hWt
        by_cases hlt : i < 80
        · obtain ⟨p15, h15⟩ : ∃ p, i = p + 15 := ⟨i - 15, by omega⟩
          obtain ⟨p2, h2⟩ : ∃ p, i = p + 2 := ⟨i - 2, by omega⟩
          obtain ⟨p16, h16⟩ : ∃ p, i = p + 16 := ⟨i - 16, by omega⟩
          obtain ⟨p7, h7⟩ : ∃ p, i = p + 7 := ⟨i - 7, by omega⟩
          have q15 : p15 < 80 := by omega
          have q2 : p2 < 80 := by omega
          have q16 : p16 < 80 := by omega
          have q7 : p7 < 80 := by omega
          have r15 : (p15 : Int) < 80 := by omega
          have r2 : (p2 : Int) < 80 := by omega
          have r16 : (p16 : Int) < 80 := by omega
          have r7 : (p7 : Int) < 80 := by omega
          have e15 : IntKind.i64.wrap (p15 : Int) = (p15 : Int) := IntWalk.i64_in _ (by omega)
          have e2 : IntKind.i64.wrap (p2 : Int) = (p2 : Int) := IntWalk.i64_in _ (by omega)
          have e16 : IntKind.i64.wrap (p16 : Int) = (p16 : Int) := IntWalk.i64_in _ (by omega)
          have e7 : IntKind.i64.wrap (p7 : Int) = (p7 : Int) := IntWalk.i64_in _ (by omega)
          have f15 : ((i : Int) - 15) = (p15 : Int) := by omega
          have f2 : ((i : Int) - 2) = (p2 : Int) := by omega
          have f16 : ((i : Int) - 16) = (p16 : Int) := by omega
          have f7 : ((i : Int) - 7) = (p7 : Int) := by omega
          have c15 := hW.cell p15 (by rw [HWl.out]; omega)
          have c2 := hW.cell p2 (by rw [HWl.out]; omega)
          have c16 := hW.cell p16 (by rw [HWl.out]; omega)
          have c7 := hW.cell p7 (by rw [HWl.out]; omega)
          have ci := hW.cell i (by rw [HWl.out]; omega)
          have fi := hW.free i
          have hi80 : (i : Int) < 80 := by omega
          obtain ⟨X, hX⟩ : ∃ X, X = W.getD p15 0 := ⟨_, rfl⟩
          obtain ⟨Y, hY⟩ : ∃ Y, Y = W.getD p2 0 := ⟨_, rfl⟩
          obtain ⟨A, hA⟩ : ∃ A, A = W.getD p16 0 := ⟨_, rfl⟩
          obtain ⟨B, hB⟩ : ∃ B, B = W.getD p7 0 := ⟨_, rfl⟩
          rw [← hX] at c15
          rw [← hY] at c2
          rw [← hA] at c16
          rw [← hB] at c7
          have fin : Hid ((W.set i (sig64 Y X A B)).take (i + 1) = sched64 M (i + 1 - 16)) := Lib.hid (by
            have hl : (W.take i).length = i := by simp [HWl.out]; omega
            have e : next64 (W.take i) = sig64 Y X A B := by
              rw [next64, hl, getD_take _ _ _ _ (by omega), getD_take _ _ _ _ (by omega), getD_take _ _ _ _ (by omega), getD_take _ _ _ _ (by omega), hX, hY, hA, hB]
              rw [show i - 2 = p2 by omega, show i - 15 = p15 by omega, show i - 16 = p16 by omega, show i - 7 = p7 by omega]
            rw [take_set_next _ _ _ (by rw [HWl.out]; omega), ← e, HWt.out, show i + 1 - 16 = (i - 16) + 1 by omega, sched64])
          clear h15 h2 h16 h7 hX hY hA hB
          have W1 := add64
          have W0 := add64m
          have W2 := xor64
          have W3 := shr7
          have W4 := shr6
          go_wp2_with fail
          go_quiet (fail)
          go_wp2_with fail
          clear c15 c2
          generalize hwq : wr.drewN nq = wq
          have d16 : wq.cell? ⟨sz, p16, none⟩ = some (.int .u64 (wi A)) := by rw [← hwq]; exact c16
          have d7 : wq.cell? ⟨sz, p7, none⟩ = some (.int .u64 (wi B)) := by rw [← hwq]; exact c7
          have di : wq.cell? ⟨sz, i, none⟩ = some (.int .u64 (wi (W.getD i 0))) := by rw [← hwq]; exact ci
          have gi : wq.frozen? ⟨sz, i, none⟩ = false := by rw [← hwq]; exact fi
          have hWq : Wds .u64 wq sz 52 W := by rw [← hwq]; exact hW
          have hsq : St STy wq g h S L r n := by rw [← hwq]; exact hst.drewN _
          have hbq : Below sz w wq := by rw [← hwq]; exact below_drewN hb _
          clear c16 c7 ci fi hW hst hb
          have HWQ := Lib.hid hwq
          clear hwq
          go_still_tail 29, (by kernel_rfl)
          still_call (still_of (Rot64_l X (-1) 1 63 _ rfl (by omega) (by omega) rfl))
          repeat still_step
          still_call (still_of (Rot64_l X (-8) 8 56 _ rfl (by omega) (by omega) rfl))
          repeat still_step
          still_call (still_of (Rot64_l Y (-19) 19 45 _ rfl (by omega) (by omega) rfl))
          repeat still_step
          still_call (still_of (Rot64_l Y (-61) 61 3 _ rfl (by omega) (by omega) rfl))
          repeat still_step
          refine wpStill_nil ?_
          change wpList _ _ _ _ _ wq.drew
          have hW' := (hWq.set i (sig64 Y X A B)).drew
          have hst' := (hsq.other hne i (.int .u64 (wi (sig64 Y X A B)))).drew
          have hb' := (hbq.setCell (p := ⟨sz, i, none⟩) (Nat.le_refl _) (.int .u64 (wi (sig64 Y X A B)))).drew
          clear W0 W1 W2 W3 W4 d16 d7 HWQ hWq hsq hbq f15 f2 f16 f7 e15 e2 e16 e7
          go_wp2_with fail
          go_roundw
          case rel => exact ⟨i + 1, _, by omega, by omega, by go_num, by rw [List.length_set]; exact HWl.out, fin.out, hW', hst', hb'⟩
          case measure => simp [intOf]; omega
        · obtain rfl : i = 80 := by omega
          have hWs : Hid (W = sched64 M 64) := Lib.hid (by
            have := HWt.out
            rw [List.take_of_length_le (by rw [HWl.out]; omega)] at this
            exact this)
          clear HWt
          rw [show ((80 : Nat) : Int) = 80 from rfl]
          go_wp2_with fail
          have s0 := hst.c_l 0 (by omega)
          have s1 := hst.c_l 1 (by omega)
          have s2 := hst.c_l 2 (by omega)
          have s3 := hst.c_l 3 (by omega)
          have s4 := hst.c_l 4 (by omega)
          have s5 := hst.c_l 5 (by omega)
          have s6 := hst.c_l 6 (by omega)
          have s7 := hst.c_l 7 (by omega)
          simp only [Nat.reduceAdd] at s0 s1 s2 s3 s4 s5 s6 s7
          have hne2 := hne
          go_quiet (fail)
          clear s0 s1 s2 s3 s4 s5 s6 s7
          have hWq : Wds .u64 (wr.drewN nq) sz 52 W := hW.drewN nq
          have hsq : St STy (wr.drewN nq) g h S L r n := hst.drewN _
          have hbq : Below sz w (wr.drewN nq) := below_drewN hb _
          clear hW hst hb
          go_wp2_with fail
          go_loopw [9, 10, 11, 12, 13, 14, 15, 16, 131] (fun a b c d e f g' h' t wr => ∃ (k : Nat) (s : S8 64), k ≤ 80 ∧ t = .int .i64 (k : Int) ∧ s = rounds64 K512 W (S8.of L) k ∧ a = .int .u64 (wi s.a) ∧ b = .int .u64 (wi s.b) ∧ c = .int .u64 (wi s.c) ∧ d = .int .u64 (wi s.d)
              ∧ e = .int .u64 (wi s.e) ∧ f = .int .u64 (wi s.f) ∧ g' = .int .u64 (wi s.g) ∧ h' = .int .u64 (wi s.h) ∧ Wds .u64 wr sz 52 W ∧ St STy wr g h S L r n ∧ Below sz w wr)
            (fun _ _ _ _ _ _ _ _ t _ => 80 - (intOf t).toNat)
          case atStart => exact ⟨0, S8.of L, by omega, rfl, rfl, rfl, rfl, rfl, rfl, rfl, rfl, rfl, rfl, hWq, hsq, hbq⟩
          case round =>
            clear hWq hsq hbq
            obtain ⟨k, s, hk, rfl, hse, rfl, rfl, rfl, rfl, rfl, rfl, rfl, rfl, hW, hst, hb⟩ := hrel
            have HS := Lib.hid hse
            clear hse
            by_cases hlt : k < 80
            · have htr : ShaTabs wr := ht.keep fun p hp => hb.cell (by rw [HSZ.out]; exact hp)
              have kc := htr.k512 k hlt
              have wc := hW.cell k (by rw [HWl.out]; omega)
              obtain ⟨kk, hkk⟩ : ∃ x, x = K512.getD k 0 := ⟨_, rfl⟩
              obtain ⟨ww, hww⟩ : ∃ x, x = W.getD k 0 := ⟨_, rfl⟩
              rw [← hkk] at kc
              rw [← hww] at wc
              have fin : Hid (round64 s kk ww = rounds64 K512 W (S8.of L) (k + 1)) := Lib.hid (by rw [rounds64, ← HS.out, hkk, hww])
              have hk80 : (k : Int) < 80 := by omega
              have W1 := add64
              have W0 := add64m
              have W2 := xor64
              have W3 := and64
              have W4 := or64
              clear hkk hww htr
              go_wp2_with fail
              go_quiet ((exact quiet_of' (Rot64_any _ _ _ (by decide) (by decide))))
              generalize hwq : wr.drewN nq = wq
              have hWq : Wds .u64 wq sz 52 W := by rw [← hwq]; exact hW
              have hsq : St STy wq g h S L r n := by rw [← hwq]; exact hst.drewN _
              have hbq : Below sz w wq := by rw [← hwq]; exact below_drewN hb _
              clear hW hst hb kc wc hwq
              go_wp2_with fail
              refine (Rot64_any _ _ _ (by decide) (by decide)).mono ?_; rintro e w' ⟨rfl, rfl⟩
              go_wp2_with fail
              refine (Rot64_any _ _ _ (by decide) (by decide)).mono ?_; rintro e w' ⟨rfl, rfl⟩
              go_wp2_with fail
              refine (Rot64_any _ _ _ (by decide) (by decide)).mono ?_; rintro e w' ⟨rfl, rfl⟩
              go_wp2_with fail
              go_roundw
              case rel => exact ⟨k + 1, round64 s kk ww, by omega, by go_num, fin.out, rfl, rfl, rfl, rfl, rfl, rfl, rfl, rfl, hWq, hsq, hbq⟩
              case measure => simp [intOf]; omega
            · obtain rfl : k = 80 := by omega
              rw [show ((80 : Nat) : Int) = 80 from rfl]
              obtain ⟨res, hres⟩ : ∃ res, res = ((S8.of L).plus s).list := ⟨_, rfl⟩
              have hrl : Hid (res.length = 8) := Lib.hid (by rw [hres]; rfl)
              have hrn : Hid (res = (block64 K512 (S8.of L) r 0).list) := Lib.hid (by rw [hres, HS.out, block64, hWs.out, HM.out])
              have HR := Lib.hid hres
              clear hres
              have ixs := index8l s
              have hst0 : St STy wr g h S (res.take 0 ++ L.drop 0) r n := hst
              have hgr := only_of_below (HSZ.out ▸ hb) (some g)
              clear HS hst hb
              go_wp2_with fail
              go_loopw [200] (fun t wr => ∃ (k : Nat), k ≤ 8 ∧ t = .int .i64 (k : Int) ∧ St STy wr g h S (res.take k ++ L.drop k) r n ∧ w.grownBy wr (some g))
                (fun t _ => 8 - (intOf t).toNat)
              case atStart => exact ⟨0, by omega, rfl, hst0, hgr⟩
              case round =>
                clear hst0 hgr hW
                obtain ⟨k, hk, rfl, hst, hb⟩ := hrel
                by_cases hlt : k < 8
                · have hix := ixs k hlt
                  have cs := hst.c_l k hlt
                  rw [mix_get _ _ _ _ (by rw [hrl.out]; omega) (by rw [hs.l8]; omega)] at cs
                  have fs := hst.free (9 + k)
                  obtain ⟨x, hx⟩ : ∃ x, x = L.getD k 0 := ⟨_, rfl⟩
                  obtain ⟨y, hy⟩ : ∃ y, y = s.list.getD k 0 := ⟨_, rfl⟩
                  rw [← hx] at cs
                  rw [← hy] at hix
                  have hst' := hst.set_l k hlt (x + y)
                  rw [show (res.take k ++ L.drop k).set k (x + y) = res.take (k + 1) ++ L.drop (k + 1) by
                    rw [show x + y = res.getD k 0 by rw [HR.out, plus_getD _ _ _ hlt, list_of L hs.l8, hx, hy]]
                    exact mix_set _ _ _ _ (by rw [hrl.out]; omega) (by rw [hs.l8]; omega)] at hst'
                  have hk8 : (k : Int) < 8 := by omega
                  have W1 := add64
                  have W0 := add64m
                  clear hx hy hst ixs
                  go_wp2_with fail
                  go_still_tail 11, (by kernel_rfl)
                  change wpList _ _ _ _ _ wr.drew
                  have hst2 := hst'.drew
                  have hb2 := only_drew (only_setCell (p := ⟨g, 9 + k, none⟩) hb (.inl rfl) (.int .u64 (wi (x + y))))
                  go_wp2_with fail
                  go_roundw
                  case rel => exact ⟨k + 1, by omega, by go_num, hst2, hb2⟩
                  case measure => simp [intOf]; omega
                · obtain rfl : k = 8 := by omega
                  rw [show ((8 : Nat) : Int) = 8 from rfl]
                  rw [List.take_of_length_le (by rw [hrl.out]; omega), List.drop_of_length_le (by rw [hs.l8]; omega), List.append_nil, hrn.out] at hst
                  go_wp2_with fail
                  go_end0
                  exact ⟨rfl, hst, hb⟩
end Go.Proofs.YtnlmkikaaifcmaaDoor
