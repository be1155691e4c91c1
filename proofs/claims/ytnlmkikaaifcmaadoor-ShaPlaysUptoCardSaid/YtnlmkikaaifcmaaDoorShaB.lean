/- package sha: block32 by its contract. -/
import Derived.Test.YtnlmkikaaifcmaaDoorShaT
import Derived.Outline
set_option linter.unusedVariables false
set_option linter.unusedSimpArgs false
namespace Go.Proofs.YtnlmkikaaifcmaaDoor
open Go.RowKit Go.Sg

abbrev STy : TypeId := 46
abbrev ShaTabs (w : World) : Prop := Tabs 8 9 0 1 2 w
theorem zero64w : (Tryd.prog.info? 50).map (fun i => (i.zero, i.size)) = some (some (.agg (List.replicate 64 (Value.int .u32 0)).toArray), 64) := by kernel_rfl
theorem size8 : (Tryd.prog.info? 5).map (·.size) = some 1 := by kernel_rfl
theorem index8 (s : S8 32) (k : Nat) (hk : k < 8) (W : World) :
    (Instr.index 41 (.agg #[.int .u32 (wi s.a), .int .u32 (wi s.b), .int .u32 (wi s.c), .int .u32 (wi s.d), .int .u32 (wi s.e), .int .u32 (wi s.f), .int .u32 (wi s.g), .int .u32 (wi s.h)]) (.int .i64 (k : Int))).run Tryd.prog W = .ok (.int .u32 (wi (s.list.getD k 0))) W := by
  rcases (show k = 0 ∨ k = 1 ∨ k = 2 ∨ k = 3 ∨ k = 4 ∨ k = 5 ∨ k = 6 ∨ k = 7 by omega) with rfl | rfl | rfl | rfl | rfl | rfl | rfl | rfl
  all_goals kernel_rfl
theorem mix_set {α : Type} (A B : List α) (k : Nat) (d : α) (hA : k < A.length) (hB : k < B.length) : (A.take k ++ B.drop k).set k (A.getD k d) = A.take (k + 1) ++ B.drop (k + 1) := by
  rw [List.set_append_right _ _ (by simp; omega), List.length_take, Nat.min_eq_left (by omega), Nat.sub_self, List.drop_eq_getElem_cons hB, List.set_cons_zero, List.take_succ_eq_append_getElem hA, List.append_assoc]
  simp [hA]
theorem mix_get {α : Type} (A B : List α) (k : Nat) (d : α) (hA : k < A.length) (hB : k < B.length) : (A.take k ++ B.drop k).getD k d = B.getD k d := by
  rw [List.getD_eq_getElem?_getD, List.getElem?_append_right (by simp; omega), List.length_take, Nat.min_eq_left (by omega), Nat.sub_self, List.getElem?_drop]
  simp
theorem plus_getD {n : Nat} (s t : S8 n) (k : Nat) (hk : k < 8) : (s.plus t).list.getD k 0 = s.list.getD k 0 + t.list.getD k 0 := by
  match k, hk with
  | 0, _ => rfl
  | 1, _ => rfl
  | 2, _ => rfl
  | 3, _ => rfl
  | 4, _ => rfl
  | 5, _ => rfl
  | 6, _ => rfl
  | 7, _ => rfl
theorem list_of {n : Nat} (S : List (BitVec n)) (h : S.length = 8) : (S8.of S).list = S := by
  match S, h with
  | [a, b, c, d, e, f, g, i], _ => rfl
theorem s8_len {n : Nat} (s : S8 n) : s.list.length = 8 := rfl
theorem shr3 (x : BitVec 32) : wi x / (8 : Int) = wi (x >>> 3) := shr_wi x 3
theorem shr10 (x : BitVec 32) : wi x / (1024 : Int) = wi (x >>> 10) := shr_wi x 10

def Block32Post (g : Nat) (h : Int) (S : List (BitVec 32)) (L : List (BitVec 64)) (r : List Int) (n : BitVec 64) (w : World) (e : Ending) (w' : World) : Prop :=
  e = .returned (.tuple #[]) ∧ St STy w' g h (block32 K256 (S8.of S) r 0).list L r n ∧ w.grownBy w' (some g)

set_option maxHeartbeats 4000000 in
set_option maxRecDepth 100000 in
theorem block32_c (g : Nat) (h : Int) (S : List (BitVec 32)) (L : List (BitVec 64)) (r : List Int) (n : BitVec 64) (w : World) (hs : St STy w g h S L r n) (ht : ShaTabs w) :
    Calls Tryd.prog 19 #[.pointer (some ⟨g, 0, none⟩)] w (Block32Post g h S L r n w) := by
  go_enter Tryd.func19, Tryd.ntmps19
  go_wp2_with (with_reducible refine wpList_alloc_rw rfl 50 rfl _ _ zero64w ?_)
  intro w1 hk1 hs1 hb1
  have HS1 := Lib.hid hs1
  have hst1 := hs.keep hb1
  have hne : g ≠ w.heap.size := by have := hs.lt; omega
  replace hk1 : Wds .u32 w1 w.heap.size 50 (List.replicate 64 (0 : BitVec 32)) := hk1
  clear hs1
  go_wp2_with fail
  go_loopw [21] (fun t wr => ∃ (k : Nat) (W : List (BitVec 32)), k ≤ 16 ∧ t = .int .i64 (k : Int) ∧ W.length = 64 ∧ W.take k = words32 r 0 k ∧ Wds .u32 wr w.heap.size 50 W ∧ St STy wr g h S L r n ∧ Below w.heap.size w wr)
    (fun t _ => 16 - (intOf t).toNat)
  case atStart => exact ⟨0, _, by omega, rfl, by simp, rfl, hk1, hst1, hb1⟩
  case round =>
    obtain ⟨k, W, hk, rfl, hWl, hWt, hW, hst, hb⟩ := hrel
    have HWl := Lib.hid hWl
    have HWt := Lib.hid hWt
    clear hWl hWt
    by_cases hlt : k < 16
    · have c0 := hst.c_r (4 * k) (by omega)
      have c1 := hst.c_r (4 * k + 1) (by omega)
      have c2 := hst.c_r (4 * k + 2) (by omega)
      have c3 := hst.c_r (4 * k + 3) (by omega)
      rw [← Nat.add_assoc] at c1 c2 c3
      obtain ⟨m, hm⟩ : ∃ m, m = 128 - 4 * k := ⟨_, rfl⟩
      have m0 : 0 < m := by omega
      have m1 : 1 < m := by omega
      have m2 : 2 < m := by omega
      have m3 : 3 < m := by omega
      have n1 : (1 : Int) < (m : Int) := by omega
      have n2 : (2 : Int) < (m : Int) := by omega
      have n3 : (3 : Int) < (m : Int) := by omega
      have b0 := hst.u8 (4 * k)
      have b1 := hst.u8 (4 * k + 1)
      have b2 := hst.u8 (4 * k + 2)
      have b3 := hst.u8 (4 * k + 3)
      have cw := hW.cell k (by rw [HWl.out]; omega)
      have fw := hW.free k
      have hcut := fun W => cut_array_l (P := Tryd.prog) W 44 5 128 Tryd.underlying44 size8 g 17 (4 * k) (by omega) (4 * (k : Int)) (by omega)
      rw [← hm] at hcut
      have HM := Lib.hid hm
      clear hm
      go_wp2_with fail
      have hword : _ = wi (word32 r (4 * k)) := word_or b0 b1 b2 b3
      have hk64 : (k : Int) < 64 := by omega
      clear b0 b1 b2 b3
      go_still_tail 24, (by kernel_rfl)
      change wpList _ _ _ _ _ wr.drew
      clear hword HM hcut c0 c1 c2 c3 m0 m1 m2 m3 n1 n2 n3
      have hW' := (hW.drew).set k (word32 r (4 * k))
      have hst' := (hst.drew).other hne k (.int .u32 (wi (word32 r (4 * k))))
      have hb' := hb.drew.setCell (p := ⟨w.heap.size, k, none⟩) (Nat.le_refl _) (.int .u32 (wi (word32 r (4 * k))))
      have fin : Hid ((W.set k (word32 r (4 * k))).take (k + 1) = words32 r 0 (k + 1)) := Lib.hid (by
        rw [take_set_next _ _ _ (by rw [HWl.out]; omega), HWt.out, words32_next, Nat.zero_add])
      go_wp2_with fail
      go_roundw
      case rel => exact ⟨k + 1, _, by omega, by go_num, by rw [List.length_set]; exact HWl.out, fin.out, hW', hst', hb'⟩
      case measure => simp [intOf]; omega
    · obtain rfl : k = 16 := by omega
      clear hst1 hk1 hb1
      obtain ⟨M, hM⟩ : ∃ M, M = words32 r 0 16 := ⟨_, rfl⟩
      have HM := Lib.hid hM
      have HMl : Hid (M.length = 16) := Lib.hid (by rw [hM, words32_len])
      rw [← hM] at HWt
      clear hM
      rw [show ((16 : Nat) : Int) = 16 from rfl]
      go_wp2_with fail
      go_loopw [5] (fun t wr => ∃ (i : Nat) (W : List (BitVec 32)), 16 ≤ i ∧ i ≤ 64 ∧ t = .int .i64 (i : Int) ∧ W.length = 64 ∧ W.take i = sched32 M (i - 16) ∧ Wds .u32 wr w.heap.size 50 W ∧ St STy wr g h S L r n ∧ Below w.heap.size w wr)
        (fun t _ => 64 - (intOf t).toNat)
      case atStart => exact ⟨16, W, by omega, by omega, rfl, HWl.out, HWt.out, hW, hst, hb⟩
      case round =>
        clear HWl HWt hW hst hb
        obtain ⟨i, W, hi16, hi, rfl, hWl, hWt, hW, hst, hb⟩ := hrel
        have HWl := Lib.hid hWl
        have HWt := Lib.hid hWt
        clear hWl hWt
        by_cases hlt : i < 64
        · obtain ⟨p15, h15⟩ : ∃ p, i = p + 15 := ⟨i - 15, by omega⟩
          obtain ⟨p2, h2⟩ : ∃ p, i = p + 2 := ⟨i - 2, by omega⟩
          obtain ⟨p16, h16⟩ : ∃ p, i = p + 16 := ⟨i - 16, by omega⟩
          obtain ⟨p7, h7⟩ : ∃ p, i = p + 7 := ⟨i - 7, by omega⟩
          have q15 : p15 < 64 := by omega
          have q2 : p2 < 64 := by omega
          have q16 : p16 < 64 := by omega
          have q7 : p7 < 64 := by omega
          have r15 : (p15 : Int) < 64 := by omega
          have r2 : (p2 : Int) < 64 := by omega
          have r16 : (p16 : Int) < 64 := by omega
          have r7 : (p7 : Int) < 64 := by omega
          have e15 : IntKind.i64.wrap (p15 : Int) = (p15 : Int) := IntWalk.i64_in _ (by omega)
          have e2 : IntKind.i64.wrap (p2 : Int) = (p2 : Int) := IntWalk.i64_in _ (by omega)
          have e16 : IntKind.i64.wrap (p16 : Int) = (p16 : Int) := IntWalk.i64_in _ (by omega)
          have e7 : IntKind.i64.wrap (p7 : Int) = (p7 : Int) := IntWalk.i64_in _ (by omega)
          have f15 : ((i : Int) - 15) = (p15 : Int) := by omega
          have f2 : ((i : Int) - 2) = (p2 : Int) := by omega
          have f16 : ((i : Int) - 16) = (p16 : Int) := by omega
          have f7 : ((i : Int) - 7) = (p7 : Int) := by omega
          have c15 := hW.cell p15 (by rw [HWl.out]; omega)
          have c2 := hW.cell p2 (by rw [HWl.out]; omega)
          have c16 := hW.cell p16 (by rw [HWl.out]; omega)
          have c7 := hW.cell p7 (by rw [HWl.out]; omega)
          have ci := hW.cell i (by rw [HWl.out]; omega)
          have fi := hW.free i
          have hi64 : (i : Int) < 64 := by omega
          obtain ⟨X, hX⟩ : ∃ X, X = W.getD p15 0 := ⟨_, rfl⟩
          obtain ⟨Y, hY⟩ : ∃ Y, Y = W.getD p2 0 := ⟨_, rfl⟩
          obtain ⟨A, hA⟩ : ∃ A, A = W.getD p16 0 := ⟨_, rfl⟩
          obtain ⟨B, hB⟩ : ∃ B, B = W.getD p7 0 := ⟨_, rfl⟩
          rw [← hX] at c15
          rw [← hY] at c2
          rw [← hA] at c16
          rw [← hB] at c7
          have fin : Hid ((W.set i (sig32 Y X A B)).take (i + 1) = sched32 M (i + 1 - 16)) := Lib.hid (by
            have hl : (W.take i).length = i := by simp [HWl.out]; omega
            have e : next32 (W.take i) = sig32 Y X A B := by
              rw [next32, hl, getD_take _ _ _ _ (by omega), getD_take _ _ _ _ (by omega), getD_take _ _ _ _ (by omega), getD_take _ _ _ _ (by omega), hX, hY, hA, hB]
              rw [show i - 2 = p2 by omega, show i - 15 = p15 by omega, show i - 16 = p16 by omega, show i - 7 = p7 by omega]
            rw [take_set_next _ _ _ (by rw [HWl.out]; omega), ← e, HWt.out, show i + 1 - 16 = (i - 16) + 1 by omega, sched32])
          clear h15 h2 h16 h7 hX hY hA hB
          have W1 := add32
          have W0 := add32m
          have W2 := xor32
          have W3 := shr3
          have W4 := shr10
          go_wp2_with fail
          go_quiet (fail)
          go_wp2_with fail
          clear c15 c2
          generalize hwq : wr.drewN nq = wq
          have d16 : wq.cell? ⟨w.heap.size, p16, none⟩ = some (.int .u32 (wi A)) := by rw [← hwq]; exact c16
          have d7 : wq.cell? ⟨w.heap.size, p7, none⟩ = some (.int .u32 (wi B)) := by rw [← hwq]; exact c7
          have di : wq.cell? ⟨w.heap.size, i, none⟩ = some (.int .u32 (wi (W.getD i 0))) := by rw [← hwq]; exact ci
          have gi : wq.frozen? ⟨w.heap.size, i, none⟩ = false := by rw [← hwq]; exact fi
          have hWq : Wds .u32 wq w.heap.size 50 W := by rw [← hwq]; exact hW
          have hsq : St STy wq g h S L r n := by rw [← hwq]; exact hst.drewN _
          have hbq : Below w.heap.size w wq := by rw [← hwq]; exact below_drewN hb _
          clear c16 c7 ci fi hW hst hb
          have HWQ := Lib.hid hwq
          clear hwq
          go_still_tail 29, (by kernel_rfl)
          still_call (still_of (Rot32_l X (-7) 7 25 _ rfl (by omega) (by omega) rfl))
          repeat still_step
          still_call (still_of (Rot32_l X (-18) 18 14 _ rfl (by omega) (by omega) rfl))
          repeat still_step
          still_call (still_of (Rot32_l Y (-17) 17 15 _ rfl (by omega) (by omega) rfl))
          repeat still_step
          still_call (still_of (Rot32_l Y (-19) 19 13 _ rfl (by omega) (by omega) rfl))
          repeat still_step
          refine wpStill_nil ?_
          change wpList _ _ _ _ _ wq.drew
          have hW' := (hWq.set i (sig32 Y X A B)).drew
          have hst' := (hsq.other hne i (.int .u32 (wi (sig32 Y X A B)))).drew
          have hb' := (hbq.setCell (p := ⟨w.heap.size, i, none⟩) (Nat.le_refl _) (.int .u32 (wi (sig32 Y X A B)))).drew
          clear W0 W1 W2 W3 W4 d16 d7 HWQ hWq hsq hbq f15 f2 f16 f7 e15 e2 e16 e7
          go_wp2_with fail
          go_roundw
          case rel => exact ⟨i + 1, _, by omega, by omega, by go_num, by rw [List.length_set]; exact HWl.out, fin.out, hW', hst', hb'⟩
          case measure => simp [intOf]; omega
        · obtain rfl : i = 64 := by omega
          have hWs : Hid (W = sched32 M 48) := Lib.hid (by
            have := HWt.out
            rw [List.take_of_length_le (by rw [HWl.out]; omega)] at this
            exact this)
          clear HWt
          rw [show ((64 : Nat) : Int) = 64 from rfl]
          go_wp2_with fail
          have s0 := hst.c_s 0 (by omega)
          have s1 := hst.c_s 1 (by omega)
          have s2 := hst.c_s 2 (by omega)
          have s3 := hst.c_s 3 (by omega)
          have s4 := hst.c_s 4 (by omega)
          have s5 := hst.c_s 5 (by omega)
          have s6 := hst.c_s 6 (by omega)
          have s7 := hst.c_s 7 (by omega)
          simp only [Nat.reduceAdd] at s0 s1 s2 s3 s4 s5 s6 s7
          have hne2 := hne
          go_quiet (fail)
          clear s0 s1 s2 s3 s4 s5 s6 s7
          have hWq : Wds .u32 (wr.drewN nq) w.heap.size 50 W := hW.drewN nq
          have hsq : St STy (wr.drewN nq) g h S L r n := hst.drewN _
          have hbq : Below w.heap.size w (wr.drewN nq) := below_drewN hb _
          clear hW hst hb
          go_wp2_with fail
          go_loopw [8, 9, 10, 11, 12, 13, 14, 15, 136] (fun a b c d e f g' h' t wr => ∃ (k : Nat) (s : S8 32), k ≤ 64 ∧ t = .int .i64 (k : Int) ∧ s = rounds32 K256 W (S8.of S) k ∧ a = .int .u32 (wi s.a) ∧ b = .int .u32 (wi s.b) ∧ c = .int .u32 (wi s.c) ∧ d = .int .u32 (wi s.d)
              ∧ e = .int .u32 (wi s.e) ∧ f = .int .u32 (wi s.f) ∧ g' = .int .u32 (wi s.g) ∧ h' = .int .u32 (wi s.h) ∧ Wds .u32 wr w.heap.size 50 W ∧ St STy wr g h S L r n ∧ Below w.heap.size w wr)
            (fun _ _ _ _ _ _ _ _ t _ => 64 - (intOf t).toNat)
          case atStart => exact ⟨0, S8.of S, by omega, rfl, rfl, rfl, rfl, rfl, rfl, rfl, rfl, rfl, rfl, hWq, hsq, hbq⟩
          case round =>
            clear hWq hsq hbq
            obtain ⟨k, s, hk, rfl, hse, rfl, rfl, rfl, rfl, rfl, rfl, rfl, rfl, hW, hst, hb⟩ := hrel
            have HS := Lib.hid hse
            clear hse
            by_cases hlt : k < 64
            · have htr : ShaTabs wr := ht.keep fun p hp => hb.cell hp
              have kc := htr.k256 k hlt
              have wc := hW.cell k (by rw [HWl.out]; omega)
              obtain ⟨kk, hkk⟩ : ∃ x, x = K256.getD k 0 := ⟨_, rfl⟩
              obtain ⟨ww, hww⟩ : ∃ x, x = W.getD k 0 := ⟨_, rfl⟩
              rw [← hkk] at kc
              rw [← hww] at wc
              have fin : Hid (round32 s kk ww = rounds32 K256 W (S8.of S) (k + 1)) := Lib.hid (by rw [rounds32, ← HS.out, hkk, hww])
              have hk64 : (k : Int) < 64 := by omega
              have W1 := add32
              have W0 := add32m
              have W2 := xor32
              have W3 := and32
              have W4 := or32
              clear hkk hww htr
              go_wp2_with fail
              go_quiet ((exact quiet_of' (Rot32_any _ _ _ (by decide) (by decide))))
              generalize hwq : wr.drewN nq = wq
              have hWq : Wds .u32 wq w.heap.size 50 W := by rw [← hwq]; exact hW
              have hsq : St STy wq g h S L r n := by rw [← hwq]; exact hst.drewN _
              have hbq : Below w.heap.size w wq := by rw [← hwq]; exact below_drewN hb _
              clear hW hst hb kc wc hwq
              go_wp2_with fail
              refine (Rot32_any _ _ _ (by decide) (by decide)).mono ?_; rintro e w' ⟨rfl, rfl⟩
              go_wp2_with fail
              refine (Rot32_any _ _ _ (by decide) (by decide)).mono ?_; rintro e w' ⟨rfl, rfl⟩
              go_wp2_with fail
              refine (Rot32_any _ _ _ (by decide) (by decide)).mono ?_; rintro e w' ⟨rfl, rfl⟩
              go_wp2_with fail
              go_roundw
              case rel => exact ⟨k + 1, round32 s kk ww, by omega, by go_num, fin.out, rfl, rfl, rfl, rfl, rfl, rfl, rfl, rfl, hWq, hsq, hbq⟩
              case measure => simp [intOf]; omega
            · obtain rfl : k = 64 := by omega
              rw [show ((64 : Nat) : Int) = 64 from rfl]
              obtain ⟨res, hres⟩ : ∃ res, res = ((S8.of S).plus s).list := ⟨_, rfl⟩
              have hrl : Hid (res.length = 8) := Lib.hid (by rw [hres]; rfl)
              have hrn : Hid (res = (block32 K256 (S8.of S) r 0).list) := Lib.hid (by rw [hres, HS.out, block32, hWs.out, HM.out])
              have HR := Lib.hid hres
              clear hres
              have ixs := index8 s
              have hst0 : St STy wr g h (res.take 0 ++ S.drop 0) L r n := hst
              have hgr := only_of_below hb (some g)
              clear HS hst hb
              go_wp2_with fail
              go_loopw [205] (fun t wr => ∃ (k : Nat), k ≤ 8 ∧ t = .int .i64 (k : Int) ∧ St STy wr g h (res.take k ++ S.drop k) L r n ∧ w.grownBy wr (some g))
                (fun t _ => 8 - (intOf t).toNat)
              case atStart => exact ⟨0, by omega, rfl, hst0, hgr⟩
              case round =>
                clear hst0 hgr hW
                obtain ⟨k, hk, rfl, hst, hb⟩ := hrel
                by_cases hlt : k < 8
                · have hix := ixs k hlt
                  have cs := hst.c_s k hlt
                  rw [mix_get _ _ _ _ (by rw [hrl.out]; omega) (by rw [hs.s8]; omega)] at cs
                  have fs := hst.free (1 + k)
                  obtain ⟨x, hx⟩ : ∃ x, x = S.getD k 0 := ⟨_, rfl⟩
                  obtain ⟨y, hy⟩ : ∃ y, y = s.list.getD k 0 := ⟨_, rfl⟩
                  rw [← hx] at cs
                  rw [← hy] at hix
                  have hst' := hst.set_s k hlt (x + y)
                  rw [show (res.take k ++ S.drop k).set k (x + y) = res.take (k + 1) ++ S.drop (k + 1) by
                    rw [show x + y = res.getD k 0 by rw [HR.out, plus_getD _ _ _ hlt, list_of S hs.s8, hx, hy]]
                    exact mix_set _ _ _ _ (by rw [hrl.out]; omega) (by rw [hs.s8]; omega)] at hst'
                  have hk8 : (k : Int) < 8 := by omega
                  have W1 := add32
                  have W0 := add32m
                  clear hx hy hst ixs
                  go_wp2_with fail
                  go_still_tail 11, (by kernel_rfl)
                  change wpList _ _ _ _ _ wr.drew
                  have hst2 := hst'.drew
                  have hb2 := only_drew (only_setCell (p := ⟨g, 1 + k, none⟩) hb (.inl rfl) (.int .u32 (wi (x + y))))
                  go_wp2_with fail
                  go_roundw
                  case rel => exact ⟨k + 1, by omega, by go_num, hst2, hb2⟩
                  case measure => simp [intOf]; omega
                · obtain rfl : k = 8 := by omega
                  rw [show ((8 : Nat) : Int) = 8 from rfl]
                  rw [List.take_of_length_le (by rw [hrl.out]; omega), List.drop_of_length_le (by rw [hs.s8]; omega), List.append_nil, hrn.out] at hst
                  go_wp2_with fail
                  go_end0
                  exact ⟨rfl, hst, hb⟩
end Go.Proofs.YtnlmkikaaifcmaaDoor
