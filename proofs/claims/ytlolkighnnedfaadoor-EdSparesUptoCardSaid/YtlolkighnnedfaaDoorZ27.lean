import Derived.Test.YtlolkighnnedfaaDoorZ26
import Derived.Outline
/- package sha: block32 by its contract. -/
set_option linter.unusedVariables false
set_option linter.unusedSimpArgs false
namespace Go.Proofs.YtlolkighnnedfaaDoor
open Go.RowKit Go.Sg

abbrev STy : TypeId := 123
abbrev ShaTabs (w : World) : Prop := Tabs 9 10 5 6 7 w
theorem zero64w : (Tryd.prog.info? 127).map (fun i => (i.zero, i.size)) = some (some (.agg (List.replicate 64 (Value.int .u32 0)).toArray), 64) := by kernel_rfl
theorem size8 : (Tryd.prog.info? 5).map (·.size) = some 1 := by kernel_rfl
theorem index8 (s : S8 32) (k : Nat) (hk : k < 8) (W : World) :
    (Instr.index 95 (.agg #[.int .u32 (wi s.a), .int .u32 (wi s.b), .int .u32 (wi s.c), .int .u32 (wi s.d), .int .u32 (wi s.e), .int .u32 (wi s.f), .int .u32 (wi s.g), .int .u32 (wi s.h)]) (.int .i64 (k : Int))).run Tryd.prog W = .ok (.int .u32 (wi (s.list.getD k 0))) W := by
  rcases (show k = 0 ∨ k = 1 ∨ k = 2 ∨ k = 3 ∨ k = 4 ∨ k = 5 ∨ k = 6 ∨ k = 7 by omega) with rfl | rfl | rfl | rfl | rfl | rfl | rfl | rfl
  all_goals kernel_rfl
theorem mix_set {α : Type} (A B : List α) (k : Nat) (d : α) (hA : k < A.length) (hB : k < B.length) : (A.take k ++ B.drop k).set k (A.getD k d) = A.take (k + 1) ++ B.drop (k + 1) := by
  rw [List.set_append_right _ _ (by simp; omega), List.length_take, Nat.min_eq_left (by omega), Nat.sub_self, List.drop_eq_getElem_cons hB, List.set_cons_zero, List.take_succ_eq_append_getElem hA, List.append_assoc]
  simp [hA]
theorem mix_get {α : Type} (A B : List α) (k : Nat) (d : α) (hA : k < A.length) (hB : k < B.length) : (A.take k ++ B.drop k).getD k d = B.getD k d := by
  rw [List.getD_eq_getElem?_getD, List.getElem?_append_right (by simp; omega), List.length_take, Nat.min_eq_left (by omega), Nat.sub_self, List.getElem?_drop]
  simp
theorem plus_getD {n : Nat} (s t : S8 n) (k : Nat) (hk : k < 8) : (s.plus t).list.getD k 0 = s.list.getD k 0 + t.list.getD k 0 := by
  match k, hk with
  | 0, _ => rfl
  | 1, _ => rfl
  | 2, _ => rfl
  | 3, _ => rfl
  | 4, _ => rfl
  | 5, _ => rfl
  | 6, _ => rfl
  | 7, _ => rfl
theorem list_of {n : Nat} (S : List (BitVec n)) (h : S.length = 8) : (S8.of S).list = S := by
  match S, h with
  | [a, b, c, d, e, f, g, i], _ => rfl
theorem s8_len {n : Nat} (s : S8 n) : s.list.length = 8 := rfl
theorem shr3 (x : BitVec 32) : wi x / (8 : Int) = wi (x >>> 3) := shr_wi x 3
theorem shr10 (x : BitVec 32) : wi x / (1024 : Int) = wi (x >>> 10) := shr_wi x 10

def Block32Post (g : Nat) (h : Int) (S : List (BitVec 32)) (L : List (BitVec 64)) (r : List Int) (n : BitVec 64) (w : World) (e : Ending) (w' : World) : Prop :=
  e = .returned (.tuple #[]) ∧ St STy w' g h (block32 K256 (S8.of S) r 0).list L r n ∧ w.grownBy w' (some g)

set_option maxHeartbeats 4000000 in
set_option maxRecDepth 100000 in
theorem block32_c (g : Nat) (h : Int) (S : List (BitVec 32)) (L : List (BitVec 64)) (r : List Int) (n : BitVec 64) (w : World) (hs : St STy w g h S L r n) (ht : ShaTabs w) :
    Calls Tryd.prog 137 #[.pointer (some ⟨g, 0, none⟩)] w (Block32Post g h S L r n w) := by
  go_enter Tryd.func137, Tryd.ntmps137
  go_wp2_with (with_reducible refine wpList_alloc_rw rfl 127 rfl _ _ zero64w ?_)
  intro w1 hk1 hs1 hb1
  have HS1 := Lib.hid hs1
  have hst1 := hs.keep hb1
  have hne : g ≠ w.heap.size := by have := hs.lt; omega
  replace hk1 : Wds .u32 w1 w.heap.size 127 (List.replicate 64 (0 : BitVec 32)) := hk1
  clear hs1
  go_wp2_with fail
  go_loopw [21] (fun t wr => ∃ (k : Nat) (W : List (BitVec 32)), k ≤ 16 ∧ t = .int .i64 (k : Int) ∧ W.length = 64 ∧ W.take k = words32 r 0 k ∧ Wds .u32 wr w.heap.size 127 W ∧ St STy wr g h S L r n ∧ Below w.heap.size w wr)
    (fun t _ => 16 - (intOf t).toNat)
  case atStart => exact ⟨0, _, by omega, rfl, by simp, rfl, hk1, hst1, hb1⟩
  case round =>
    obtain ⟨k, W, hk, rfl, hWl, hWt, hW, hst, hb⟩ := hrel
    have HWl := Lib.hid hWl
    have HWt := Lib.hid hWt
    clear hWl hWt
    by_cases hlt : k < 16
    · have c0 := hst.c_r (4 * k) (by omega)
      have c1 := hst.c_r (4 * k + 1) (by omega)
      have c2 := hst.c_r (4 * k + 2) (by omega)
      have c3 := hst.c_r (4 * k + 3) (by omega)
      rw [← Nat.add_assoc] at c1 c2 c3
      obtain ⟨m, hm⟩ : ∃ m, m = 128 - 4 * k := ⟨_, rfl⟩
      have m0 : 0 < m := by omega
      have m1 : 1 < m := by omega
      have m2 : 2 < m := by omega
      have m3 : 3 < m := by omega
      have n1 : (1 : Int) < (m : Int) := by omega
      have n2 : (2 : Int) < (m : Int) := by omega
      have n3 : (3 : Int) < (m : Int) := by omega
      have b0 := hst.u8 (4 * k)
      have b1 := hst.u8 (4 * k + 1)
      have b2 := hst.u8 (4 * k + 2)
      have b3 := hst.u8 (4 * k + 3)
      have cw := hW.cell k (by rw [HWl.out]; omega)
      have fw := hW.free k
      have hcut := fun W => cut_array_l (P := Tryd.prog) W 121 5 128 Tryd.underlying121 size8 g 17 (4 * k) (by omega) (4 * (k : Int)) (by omega)
      rw [← hm] at hcut
      have HM := Lib.hid hm
      clear hm
      go_wp2_with fail
      have hword : _ = wi (word32 r (4 * k)) := word_or b0 b1 b2 b3
      have hk64 : (k : Int) < 64 := by omega
      clear b0 b1 b2 b3
      go_still_tail 24, (by kernel_rfl)
      change wpList _ _ _ _ _ wr.drew
      clear hword HM hcut c0 c1 c2 c3 m0 m1 m2 m3 n1 n2 n3
      have hW' := (hW.drew).set k (word32 r (4 * k))
      have hst' := (hst.drew).other hne k (.int .u32 (wi (word32 r (4 * k))))
      have hb' := hb.drew.setCell (p := ⟨w.heap.size, k, none⟩) (Nat.le_refl _) (.int .u32 (wi (word32 r (4 * k))))
      have fin : Hid ((W.set k (word32 r (4 * k))).take (k + 1) = words32 r 0 (k + 1)) := Lib.hid (by
        rw [take_set_next _ _ _ (by rw [HWl.out]; omega), HWt.out, words32_next, Nat.zero_add])
      go_wp2_with fail
      go_roundw
      case rel => exact ⟨k + 1, _, by omega, by go_num, by rw [List.length_set]; exact HWl.out, fin.out, hW', hst', hb'⟩
      case measure => simp [intOf]; omega
    · obtain rfl : k = 16 := by omega
      clear hst1 hk1 hb1
      obtain ⟨M, hM⟩ : ∃ M, M = words32 r 0 16 := ⟨_, rfl⟩
      have HM := Lib.hid hM
      have HMl : Hid (M.length = 16) := Lib.hid (by rw [hM, words32_len])
      rw [← hM] at HWt
      clear hM
      rw [show ((16 : Nat) : Int) = 16 from rfl]
      go_wp2_with fail
      go_loopw [5] (fun t wr => ∃ (i : Nat) (W : List (BitVec 32)), 16 ≤ i ∧ i ≤ 64 ∧ t = .int .i64 (i : Int) ∧ W.length = 64 ∧ W.take i = sched32 M (i - 16) ∧ Wds .u32 wr w.heap.size 127 W ∧ St STy wr g h S L r n ∧ Below w.heap.size w wr)
        (fun t _ => 64 - (intOf t).toNat)
      case atStart => exact ⟨16, W, by omega, by omega, rfl, HWl.out, HWt.out, hW, hst, hb⟩
      case round =>
        clear HWl HWt hW hst hb
        obtain ⟨i, W, hi16, hi, rfl, hWl, hWt, hW, hst, hb⟩ := hrel
        have HWl := Lib.hid hWl
        have HWt := Lib.hid hWt
        clear hWl hWt
        by_cases hlt : i < 64
        · obtain ⟨p15, h15⟩ : ∃ p, i = p + 15 := ⟨i - 15, by omega⟩
          obtain ⟨p2, h2⟩ : ∃ p, i = p + 2 := ⟨i - 2, by omega⟩
          obtain ⟨p16, h16⟩ : ∃ p, i = p + 16 := ⟨i - 16, by omega⟩
          obtain ⟨p7, h7⟩ : ∃ p, i = p + 7 := ⟨i - 7, by omega⟩
          have q15 : p15 < 64 := by omega
          have q2 : p2 < 64 := by omega
          have q16 : p16 < 64 := by omega
          have q7 : p7 < 64 := by omega
          have r15 : (p15 : Int) < 64 := by omega
          have r2 : (p2 : Int) < 64 := by omega
          have r16 : (p16 : Int) < 64 := by omega
          have r7 : (p7 : Int) < 64 := by omega
          have e15 : IntKind.i64.wrap (p15 : Int) = (p15 : Int) := IntWalk.i64_in _ (by omega)
          have e2 : IntKind.i64.wrap (p2 : Int) = (p2 : Int) := IntWalk.i64_in _ (by omega)
          have e16 : IntKind.i64.wrap (p16 : Int) = (p16 : Int) := IntWalk.i64_in _ (by omega)
          have e7 : IntKind.i64.wrap (p7 : Int) = (p7 : Int) := IntWalk.i64_in _ (by omega)
          have f15 : ((i : Int) - 15) = (p15 : Int) := by omega
          have f2 : ((i : Int) - 2) = (p2 : Int) := by omega
          have f16 : ((i : Int) - 16) = (p16 : Int) := by omega
          have f7 : ((i : Int) - 7) = (p7 : Int) := by omega
          have c15 := hW.cell p15 (by rw [HWl.out]; omega)
          have c2 := hW.cell p2 (by rw [HWl.out]; omega)
          have c16 := hW.cell p16 (by rw [HWl.out]; omega)
          have c7 := hW.cell p7 (by rw [HWl.out]; omega)
          have ci := hW.cell i (by rw [HWl.out]; omega)
          have fi := hW.free i
          have hi64 : (i : Int) < 64 := by omega
          obtain ⟨X, hX⟩ : ∃ X, X = W.getD p15 0 := ⟨_, rfl⟩
          obtain ⟨Y, hY⟩ : ∃ Y, Y = W.getD p2 0 := ⟨_, rfl⟩
          obtain ⟨A, hA⟩ : ∃ A, A = W.getD p16 0 := ⟨_, rfl⟩
          obtain ⟨B, hB⟩ : ∃ B, B = W.getD p7 0 := ⟨_, rfl⟩
          rw [← hX] at c15
          rw [← hY] at c2
          rw [← hA] at c16
          rw [← hB] at c7
          have fin : Hid ((W.set i (sig32 Y X A B)).take (i + 1) = sched32 M (i + 1 - 16)) := Lib.hid (by
            have hl : (W.take i).length = i := by simp [HWl.out]; omega
            have e : next32 (W.take i) = sig32 Y X A B := by
              rw [next32, hl, getD_take _ _ _ _ (by omega), getD_take _ _ _ _ (by omega), getD_take _ _ _ _ (by omega), getD_take _ _ _ _ (by omega), hX, hY, hA, hB]
              rw [show i - 2 = p2 by omega, show i - 15 = p15 by omega, show i - 16 = p16 by omega, show i - 7 = p7 by omega]
            rw [take_set_next _ _ _ (by rw [HWl.out]; omega), ← e, HWt.out, show i + 1 - 16 = (i - 16) + 1 by omega, sched32])
          clear h15 h2 h16 h7 hX hY hA hB
          have W1 := add32
          have W0 := add32m
          have W2 := xor32
          have W3 := shr3
          have W4 := shr10
          go_wp2_with fail
          go_quiet (fail)
          go_wp2_with fail
          clear c15 c2
          generalize hwq : wr.drewN nq = wq
          have d16 : wq.cell? ⟨w.heap.size, p16, none⟩ = some (.int .u32 (wi A)) := by rw [← hwq]; exact c16
          have d7 : wq.cell? ⟨w.heap.size, p7, none⟩ = some (.int .u32 (wi B)) := by rw [← hwq]; exact c7
          have di : wq.cell? ⟨w.heap.size, i, none⟩ = some (.int .u32 (wi (W.getD i 0))) := by rw [← hwq]; exact ci
          have gi : wq.frozen? ⟨w.heap.size, i, none⟩ = false := by rw [← hwq]; exact fi
          have hWq : Wds .u32 wq w.heap.size 127 W := by rw [← hwq]; exact hW
          have hsq : St STy wq g h S L r n := by rw [← hwq]; exact hst.drewN _
          have hbq : Below w.heap.size w wq := by rw [← hwq]; exact below_drewN hb _
          clear c16 c7 ci fi hW hst hb
          have HWQ := Lib.hid hwq
          clear hwq
          go_still_tail 29, (by kernel_rfl)
          still_call (still_of (Rot32_l X (-7) 7 25 _ rfl (by omega) (by omega) rfl))
          repeat still_step
          still_call (still_of (Rot32_l X (-18) 18 14 _ rfl (by omega) (by omega) rfl))
          repeat still_step
          still_call (still_of (Rot32_l Y (-17) 17 15 _ rfl (by omega) (by omega) rfl))
          repeat still_step
          still_call (still_of (Rot32_l Y (-19) 19 13 _ rfl (by omega) (by omega) rfl))
          repeat still_step
          refine wpStill_nil ?_
          change wpList _ _ _ _ _ wq.drew
          have hW' := (hWq.set i (sig32 Y X A B)).drew
          have hst' := (hsq.other hne i (.int .u32 (wi (sig32 Y X A B)))).drew
          have hb' := (hbq.setCell (p := ⟨w.heap.size, i, none⟩) (Nat.le_refl _) (.int .u32 (wi (sig32 Y X A B)))).drew
          clear W0 W1 W2 W3 W4 d16 d7 HWQ hWq hsq hbq f15 f2 f16 f7 e15 e2 e16 e7
          go_wp2_with fail
          go_roundw
          case rel => exact ⟨i + 1, _, by omega, by omega, by go_num, by rw [List.length_set]; exact HWl.out, fin.out, hW', hst', hb'⟩
          case measure => simp [intOf]; omega
        · obtain rfl : i = 64 := by omega
          have hWs : Hid (W = sched32 M 48) := Lib.hid (by
            have := HWt.out
            rw [List.take_of_length_le (by rw [HWl.out]; omega)] at this
            exact this)
          clear HWt
          rw [show ((64 : Nat) : Int) = 64 from rfl]
          go_wp2_with fail
          have s0 := hst.c_s 0 (by omega)
          have s1 := hst.c_s 1 (by omega)
          have s2 := hst.c_s 2 (by omega)
          have s3 := hst.c_s 3 (by omega)
          have s4 := hst.c_s 4 (by omega)
          have s5 := hst.c_s 5 (by omega)
          have s6 := hst.c_s 6 (by omega)
          have s7 := hst.c_s 7 (by omega)
          simp only [Nat.reduceAdd] at s0 s1 s2 s3 s4 s5 s6 s7
          have hne2 := hne
          go_quiet (fail)
          clear s0 s1 s2 s3 s4 s5 s6 s7
          have hWq : Wds .u32 (wr.drewN nq) w.heap.size 127 W := hW.drewN nq
          have hsq : St STy (wr.drewN nq) g h S L r n := hst.drewN _
          have hbq : Below w.heap.size w (wr.drewN nq) := below_drewN hb _
          clear hW hst hb
          go_wp2_with fail
          go_loopw [8, 9, 10, 11, 12, 13, 14, 15, 136] (fun a b c d e f g' h' t wr => ∃ (k : Nat) (s : S8 32), k ≤ 64 ∧ t = .int .i64 (k : Int) ∧ s = rounds32 K256 W (S8.of S) k ∧ a = .int .u32 (wi s.a) ∧ b = .int .u32 (wi s.b) ∧ c = .int .u32 (wi s.c) ∧ d = .int .u32 (wi s.d)
              ∧ e = .int .u32 (wi s.e) ∧ f = .int .u32 (wi s.f) ∧ g' = .int .u32 (wi s.g) ∧ h' = .int .u32 (wi s.h) ∧ Wds .u32 wr w.heap.size 127 W ∧ St STy wr g h S L r n ∧ Below w.heap.size w wr)
            (fun _ _ _ _ _ _ _ _ t _ => 64 - (intOf t).toNat)
          case atStart => exact ⟨0, S8.of S, by omega, rfl, rfl, rfl, rfl, rfl, rfl, rfl, rfl, rfl, rfl, hWq, hsq, hbq⟩
          case round =>
            clear hWq hsq hbq
            obtain ⟨k, s, hk, rfl, hse, rfl, rfl, rfl, rfl, rfl, rfl, rfl, rfl, hW, hst, hb⟩ := hrel
            have HS := Lib.hid hse
            clear hse
            by_cases hlt : k < 64
            · have htr : ShaTabs wr := ht.keep fun p hp => hb.cell hp
              have kc := htr.k256 k hlt
              have wc := hW.cell k (by rw [HWl.out]; omega)
              obtain ⟨kk, hkk⟩ : ∃ x, x = K256.getD k 0 := ⟨_, rfl⟩
              obtain ⟨ww, hww⟩ : ∃ x, x = W.getD k 0 := ⟨_, rfl⟩
              rw [← hkk] at kc
              rw [← hww] at wc
              have fin : Hid (round32 s kk ww = rounds32 K256 W (S8.of S) (k + 1)) := Lib.hid (by rw [rounds32, ← HS.out, hkk, hww])
              have hk64 : (k : Int) < 64 := by omega
              have W1 := add32
              have W0 := add32m
              have W2 := xor32
              have W3 := and32
              have W4 := or32
              clear hkk hww htr
              go_wp2_with fail
              go_quiet ((exact quiet_of' (Rot32_any _ _ _ (by decide) (by decide))))
              generalize hwq : wr.drewN nq = wq
              have hWq : Wds .u32 wq w.heap.size 127 W := by rw [← hwq]; exact hW
              have hsq : St STy wq g h S L r n := by rw [← hwq]; exact hst.drewN _
              have hbq : Below w.heap.size w wq := by rw [← hwq]; exact below_drewN hb _
              clear hW hst hb kc wc hwq
              go_wp2_with fail
              refine (Rot32_any _ _ _ (by decide) (by decide)).mono ?_; rintro e w' ⟨rfl, rfl⟩
              go_wp2_with fail
              refine (Rot32_any _ _ _ (by decide) (by decide)).mono ?_; rintro e w' ⟨rfl, rfl⟩
              go_wp2_with fail
              refine (Rot32_any _ _ _ (by decide) (by decide)).mono ?_; rintro e w' ⟨rfl, rfl⟩
              go_wp2_with fail
              go_roundw
              case rel => exact ⟨k + 1, round32 s kk ww, by omega, by go_num, fin.out, rfl, rfl, rfl, rfl, rfl, rfl, rfl, rfl, hWq, hsq, hbq⟩
              case measure => simp [intOf]; omega
            · obtain rfl : k = 64 := by omega
              rw [show ((64 : Nat) : Int) = 64 from rfl]
              obtain ⟨res, hres⟩ : ∃ res, res = ((S8.of S).plus s).list := ⟨_, rfl⟩
              have hrl : Hid (res.length = 8) := Lib.hid (by rw [hres]; rfl)
              have hrn : Hid (res = (block32 K256 (S8.of S) r 0).list) := Lib.hid (by rw [hres, HS.out, block32, hWs.out, HM.out])
              have HR := Lib.hid hres
              clear hres
              have ixs := index8 s
              have hst0 : St STy wr g h (res.take 0 ++ S.drop 0) L r n := hst
              have hgr := only_of_below hb (some g)
              clear HS hst hb
              go_wp2_with fail
              go_loopw [205] (fun t wr => ∃ (k : Nat), k ≤ 8 ∧ t = .int .i64 (k : Int) ∧ St STy wr g h (res.take k ++ S.drop k) L r n ∧ w.grownBy wr (some g))
                (fun t _ => 8 - (intOf t).toNat)
              case atStart => exact ⟨0, by omega, rfl, hst0, hgr⟩
              case round =>
                clear hst0 hgr hW
                obtain ⟨k, hk, rfl, hst, hb⟩ := hrel
                by_cases hlt : k < 8
                · have hix := ixs k hlt
                  have cs := hst.c_s k hlt
                  rw [mix_get _ _ _ _ (by rw [hrl.out]; omega) (by rw [hs.s8]; omega)] at cs
                  have fs := hst.free (1 + k)
                  obtain ⟨x, hx⟩ : ∃ x, x = S.getD k 0 := ⟨_, rfl⟩
                  obtain ⟨y, hy⟩ : ∃ y, y = s.list.getD k 0 := ⟨_, rfl⟩
                  rw [← hx] at cs
                  rw [← hy] at hix
                  have hst' := hst.set_s k hlt (x + y)
                  rw [show (res.take k ++ S.drop k).set k (x + y) = res.take (k + 1) ++ S.drop (k + 1) by
                    rw [show x + y = res.getD k 0 by rw [HR.out, plus_getD _ _ _ hlt, list_of S hs.s8, hx, hy]]
                    exact mix_set _ _ _ _ (by rw [hrl.out]; omega) (by rw [hs.s8]; omega)] at hst'
                  have hk8 : (k : Int) < 8 := by omega
                  have W1 := add32
                  have W0 := add32m
                  clear hx hy hst ixs
                  go_wp2_with fail
                  go_still_tail 11, (by kernel_rfl)
                  change wpList _ _ _ _ _ wr.drew
                  have hst2 := hst'.drew
                  have hb2 := only_drew (only_setCell (p := ⟨g, 1 + k, none⟩) hb (.inl rfl) (.int .u32 (wi (x + y))))
                  go_wp2_with fail
                  go_roundw
                  case rel => exact ⟨k + 1, by omega, by go_num, hst2, hb2⟩
                  case measure => simp [intOf]; omega
                · obtain rfl : k = 8 := by omega
                  rw [show ((8 : Nat) : Int) = 8 from rfl]
                  rw [List.take_of_length_le (by rw [hrl.out]; omega), List.drop_of_length_le (by rw [hs.s8]; omega), List.append_nil, hrn.out] at hst
                  go_wp2_with fail
                  go_end0
                  exact ⟨rfl, hst, hb⟩
end Go.Proofs.YtlolkighnnedfaaDoor
/- package sha: block64 by its contract. (Out of block32's text by gen_shac.py.) -/
set_option linter.unusedVariables false
set_option linter.unusedSimpArgs false
namespace Go.Sg
theorem getD_mid {α : Type} (A C : List α) (x d : α) (k : Nat) (h : k = A.length) : (A ++ x :: C).getD k d = x := by subst h; simp
theorem set_mid {α : Type} (A C : List α) (x y : α) (k : Nat) (h : k = A.length) : (A ++ x :: C).set k y = A ++ y :: C := by subst h; simp
theorem byte_or (x : BitVec 64) {b : Int} (hb : 0 ≤ b ∧ b ≤ 255) : bits .or .u64 (IntKind.u64.wrap (wi x * 256)) b = wi (x <<< 8 ||| .ofNat 64 b.toNat) := by
  have e : b = wi (BitVec.ofNat 64 b.toNat) := by rw [wi, BitVec.toNat_ofNat]; omega
  have e2 := shl64 x 8
  rw [IntKind.wrap_u64, show (256 : Int) = ((2 ^ 8 : Nat) : Int) from rfl, e2]
  conv => lhs; rw [e]
  exact or64 _ _
end Go.Sg
namespace Go.Proofs.YtlolkighnnedfaaDoor
open Go.RowKit Go.Sg

theorem zero80w : (Tryd.prog.info? 129).map (fun i => (i.zero, i.size)) = some (some (.agg (List.replicate 80 (Value.int .u64 0)).toArray), 80) := by kernel_rfl
theorem shr7 (x : BitVec 64) : wi x / (128 : Int) = wi (x >>> 7) := shr_wi x 7
theorem shr6 (x : BitVec 64) : wi x / (64 : Int) = wi (x >>> 6) := shr_wi x 6
theorem index8l (s : S8 64) (k : Nat) (hk : k < 8) (W : World) :
    (Instr.index 120 (.agg #[.int .u64 (wi s.a), .int .u64 (wi s.b), .int .u64 (wi s.c), .int .u64 (wi s.d), .int .u64 (wi s.e), .int .u64 (wi s.f), .int .u64 (wi s.g), .int .u64 (wi s.h)]) (.int .i64 (k : Int))).run Tryd.prog W = .ok (.int .u64 (wi (s.list.getD k 0))) W := by
  rcases (show k = 0 ∨ k = 1 ∨ k = 2 ∨ k = 3 ∨ k = 4 ∨ k = 5 ∨ k = 6 ∨ k = 7 by omega) with rfl | rfl | rfl | rfl | rfl | rfl | rfl | rfl
  all_goals kernel_rfl

def Block64Post (g : Nat) (h : Int) (S : List (BitVec 32)) (L : List (BitVec 64)) (r : List Int) (n : BitVec 64) (w : World) (e : Ending) (w' : World) : Prop :=
  e = .returned (.tuple #[]) ∧ St STy w' g h S (block64 K512 (S8.of L) r 0).list r n ∧ w.grownBy w' (some g)

set_option maxHeartbeats 4000000 in
set_option maxRecDepth 100000 in
theorem block64_c (g : Nat) (h : Int) (S : List (BitVec 32)) (L : List (BitVec 64)) (r : List Int) (n : BitVec 64) (w : World) (hs : St STy w g h S L r n) (ht : ShaTabs w) :
    Calls Tryd.prog 138 #[.pointer (some ⟨g, 0, none⟩)] w (Block64Post g h S L r n w) := by
  go_enter Tryd.func138, Tryd.ntmps138
  go_wp2_with (with_reducible refine wpList_alloc_rw rfl 129 rfl _ _ zero80w ?_)
  intro w1 hk1 hs1 hb1
  have HS1 := Lib.hid hs1
  have hst1 := hs.keep hb1
  have hne : g ≠ w.heap.size := by have := hs.lt; omega
  replace hk1 : Wds .u64 w1 w.heap.size 129 (List.replicate 80 (0 : BitVec 64)) := hk1
  clear hs1
  go_wp2_with fail
  obtain ⟨sz, hsz⟩ : ∃ sz, sz = w.heap.size := ⟨_, rfl⟩
  rw [← hsz] at hk1 hne hb1 ⊢
  have HSZ := Lib.hid hsz
  clear hsz
  go_loopw [22] (fun t wr => ∃ (k : Nat), k ≤ 16 ∧ t = .int .i64 (k : Int) ∧ Wds .u64 wr sz 129 (words64 r 0 k ++ List.replicate (80 - k) 0) ∧ St STy wr g h S L r n ∧ Below sz w wr)
    (fun t _ => 16 - (intOf t).toNat)
  case atStart => exact ⟨0, by omega, rfl, hk1, hst1, hb1⟩
  case round =>
    obtain ⟨k, hk, rfl, hW, hst, hb⟩ := hrel
    by_cases hlt : k < 16
    · have hcut := fun W => cut_array (P := Tryd.prog) W 121 5 128 Tryd.underlying121 size8 g 17 (8 * k) (8 * k + 8) (by omega) (by omega) (by omega) (8 * (k : Int)) (8 * (k : Int) + 8) (by omega) (by omega)
      obtain ⟨m, hm⟩ : ∃ m, m = 128 - 8 * k := ⟨_, rfl⟩
      rw [← hm, show 8 * k + 8 - 8 * k = 8 by omega] at hcut
      have m8 : 8 ≤ m := by omega
      have HM := Lib.hid hm
      have hW0 : Wds .u64 wr sz 129 (words64 r 0 k ++ part64 r (8 * k) 0 :: List.replicate (79 - k) 0) := by
        rw [show 80 - k = (79 - k) + 1 by omega] at hW; exact hW
      obtain ⟨wo, hwo⟩ : ∃ wo : World, wo = wr := ⟨_, rfl⟩
      subst hwo
      clear hm hW
      go_wp2_with fail
      go_loopw [35] (fun t wr => ∃ (j : Nat), j ≤ 8 ∧ t = .int .i64 (j : Int) ∧ Wds .u64 wr sz 129 (words64 r 0 k ++ part64 r (8 * k) j :: List.replicate (79 - k) 0) ∧ St STy wr g h S L r n ∧ Below sz w wr)
        (fun t _ => 8 - (intOf t).toNat)
      case atStart => exact ⟨0, by omega, rfl, hW0, hst, hb⟩
      case round =>
        clear hW0 hst hb
        obtain ⟨j, hj, rfl, hW, hst, hb⟩ := hrel
        by_cases hjl : j < 8
        · have c0 := hst.c_r (8 * k + j) (by omega)
          rw [← Nat.add_assoc] at c0
          have b0 := hst.u8 (8 * k + j)
          have hl := words64_len r 0 k
          have cw := hW.cell k (by rw [List.length_append, hl, List.length_cons, List.length_replicate]; omega)
          rw [getD_mid _ _ _ _ _ hl.symm] at cw
          have fw := hW.free k
          have hW' := hW.set k (part64 r (8 * k) (j + 1))
          rw [set_mid _ _ _ _ _ hl.symm] at hW'
          have hst' := hst.other hne k (.int .u64 (wi (part64 r (8 * k) (j + 1))))
          have hb' := hb.setCell (p := ⟨sz, k, none⟩) (Nat.le_refl _) (.int .u64 (wi (part64 r (8 * k) (j + 1))))
          have hword : _ = wi (part64 r (8 * k) (j + 1)) := byte_or (part64 r (8 * k) j) b0
          have hj8 : (j : Int) < 8 := by omega
          have hk80 : (k : Int) < 80 := by omega
          have hk80' : k < 80 := by omega
          clear hW hst hb hl
          go_wp2_with fail
          go_roundw
          case rel => exact ⟨j + 1, by omega, by go_num, hW', hst', hb'⟩
          case measure => simp [intOf]; omega
        · obtain rfl : j = 8 := by omega
          rw [show ((8 : Nat) : Int) = 8 from rfl]
          have hW' : Wds .u64 wr sz 129 (words64 r 0 (k + 1) ++ List.replicate (80 - (k + 1)) 0) := by
            rw [words64_next, Nat.zero_add, List.append_assoc, show 80 - (k + 1) = 79 - k by omega]
            exact hW
          clear hW
          go_wp2_with fail
          go_roundw
          case rel => exact ⟨k + 1, by omega, by go_num, hW', hst, hb⟩
          case measure => simp [intOf]; omega
    · obtain rfl : k = 16 := by omega
      obtain ⟨W, hW1⟩ : ∃ W, W = words64 r 0 16 ++ List.replicate (80 - 16) (0 : BitVec 64) := ⟨_, rfl⟩
      rw [← hW1] at hW
      have HWl : Hid (W.length = 80) := Lib.hid (by rw [hW1, List.length_append, words64_len, List.length_replicate])
      have HWt : Hid (W.take 16 = words64 r 0 16) := Lib.hid (by rw [hW1, List.take_left' (words64_len _ _ _)])
      clear hW1
      clear hst1 hk1 hb1
      obtain ⟨M, hM⟩ : ∃ M, M = words64 r 0 16 := ⟨_, rfl⟩
      have HM := Lib.hid hM
      have HMl : Hid (M.length = 16) := Lib.hid (by rw [hM, words64_len])
      rw [← hM] at HWt
      clear hM
      rw [show ((16 : Nat) : Int) = 16 from rfl]
      go_wp2_with fail
      go_loopw [6] (fun t wr => ∃ (i : Nat) (W : List (BitVec 64)), 16 ≤ i ∧ i ≤ 80 ∧ t = .int .i64 (i : Int) ∧ W.length = 80 ∧ W.take i = sched64 M (i - 16) ∧ Wds .u64 wr sz 129 W ∧ St STy wr g h S L r n ∧ Below sz w wr)
        (fun t _ => 80 - (intOf t).toNat)
      case atStart => exact ⟨16, W, by omega, by omega, rfl, HWl.out, HWt.out, hW, hst, hb⟩
      case round =>
        clear HWl HWt hW hst hb
        obtain ⟨i, W, hi16, hi, rfl, hWl, hWt, hW, hst, hb⟩ := hrel
        have HWl := Lib.hid hWl
        have HWt := Lib.hid hWt
        clear hWl hWt
        by_cases hlt : i < 80
        · obtain ⟨p15, h15⟩ : ∃ p, i = p + 15 := ⟨i - 15, by omega⟩
          obtain ⟨p2, h2⟩ : ∃ p, i = p + 2 := ⟨i - 2, by omega⟩
          obtain ⟨p16, h16⟩ : ∃ p, i = p + 16 := ⟨i - 16, by omega⟩
          obtain ⟨p7, h7⟩ : ∃ p, i = p + 7 := ⟨i - 7, by omega⟩
          have q15 : p15 < 80 := by omega
          have q2 : p2 < 80 := by omega
          have q16 : p16 < 80 := by omega
          have q7 : p7 < 80 := by omega
          have r15 : (p15 : Int) < 80 := by omega
          have r2 : (p2 : Int) < 80 := by omega
          have r16 : (p16 : Int) < 80 := by omega
          have r7 : (p7 : Int) < 80 := by omega
          have e15 : IntKind.i64.wrap (p15 : Int) = (p15 : Int) := IntWalk.i64_in _ (by omega)
          have e2 : IntKind.i64.wrap (p2 : Int) = (p2 : Int) := IntWalk.i64_in _ (by omega)
          have e16 : IntKind.i64.wrap (p16 : Int) = (p16 : Int) := IntWalk.i64_in _ (by omega)
          have e7 : IntKind.i64.wrap (p7 : Int) = (p7 : Int) := IntWalk.i64_in _ (by omega)
          have f15 : ((i : Int) - 15) = (p15 : Int) := by omega
          have f2 : ((i : Int) - 2) = (p2 : Int) := by omega
          have f16 : ((i : Int) - 16) = (p16 : Int) := by omega
          have f7 : ((i : Int) - 7) = (p7 : Int) := by omega
          have c15 := hW.cell p15 (by rw [HWl.out]; omega)
          have c2 := hW.cell p2 (by rw [HWl.out]; omega)
          have c16 := hW.cell p16 (by rw [HWl.out]; omega)
          have c7 := hW.cell p7 (by rw [HWl.out]; omega)
          have ci := hW.cell i (by rw [HWl.out]; omega)
          have fi := hW.free i
          have hi80 : (i : Int) < 80 := by omega
          obtain ⟨X, hX⟩ : ∃ X, X = W.getD p15 0 := ⟨_, rfl⟩
          obtain ⟨Y, hY⟩ : ∃ Y, Y = W.getD p2 0 := ⟨_, rfl⟩
          obtain ⟨A, hA⟩ : ∃ A, A = W.getD p16 0 := ⟨_, rfl⟩
          obtain ⟨B, hB⟩ : ∃ B, B = W.getD p7 0 := ⟨_, rfl⟩
          rw [← hX] at c15
          rw [← hY] at c2
          rw [← hA] at c16
          rw [← hB] at c7
          have fin : Hid ((W.set i (sig64 Y X A B)).take (i + 1) = sched64 M (i + 1 - 16)) := Lib.hid (by
            have hl : (W.take i).length = i := by simp [HWl.out]; omega
            have e : next64 (W.take i) = sig64 Y X A B := by
              rw [next64, hl, getD_take _ _ _ _ (by omega), getD_take _ _ _ _ (by omega), getD_take _ _ _ _ (by omega), getD_take _ _ _ _ (by omega), hX, hY, hA, hB]
              rw [show i - 2 = p2 by omega, show i - 15 = p15 by omega, show i - 16 = p16 by omega, show i - 7 = p7 by omega]
            rw [take_set_next _ _ _ (by rw [HWl.out]; omega), ← e, HWt.out, show i + 1 - 16 = (i - 16) + 1 by omega, sched64])
          clear h15 h2 h16 h7 hX hY hA hB
          have W1 := add64
          have W0 := add64m
          have W2 := xor64
          have W3 := shr7
          have W4 := shr6
          go_wp2_with fail
          go_quiet (fail)
          go_wp2_with fail
          clear c15 c2
          generalize hwq : wr.drewN nq = wq
          have d16 : wq.cell? ⟨sz, p16, none⟩ = some (.int .u64 (wi A)) := by rw [← hwq]; exact c16
          have d7 : wq.cell? ⟨sz, p7, none⟩ = some (.int .u64 (wi B)) := by rw [← hwq]; exact c7
          have di : wq.cell? ⟨sz, i, none⟩ = some (.int .u64 (wi (W.getD i 0))) := by rw [← hwq]; exact ci
          have gi : wq.frozen? ⟨sz, i, none⟩ = false := by rw [← hwq]; exact fi
          have hWq : Wds .u64 wq sz 129 W := by rw [← hwq]; exact hW
          have hsq : St STy wq g h S L r n := by rw [← hwq]; exact hst.drewN _
          have hbq : Below sz w wq := by rw [← hwq]; exact below_drewN hb _
          clear c16 c7 ci fi hW hst hb
          have HWQ := Lib.hid hwq
          clear hwq
          go_still_tail 29, (by kernel_rfl)
          still_call (still_of (Rot64_l X (-1) 1 63 _ rfl (by omega) (by omega) rfl))
          repeat still_step
          still_call (still_of (Rot64_l X (-8) 8 56 _ rfl (by omega) (by omega) rfl))
          repeat still_step
          still_call (still_of (Rot64_l Y (-19) 19 45 _ rfl (by omega) (by omega) rfl))
          repeat still_step
          still_call (still_of (Rot64_l Y (-61) 61 3 _ rfl (by omega) (by omega) rfl))
          repeat still_step
          refine wpStill_nil ?_
          change wpList _ _ _ _ _ wq.drew
          have hW' := (hWq.set i (sig64 Y X A B)).drew
          have hst' := (hsq.other hne i (.int .u64 (wi (sig64 Y X A B)))).drew
          have hb' := (hbq.setCell (p := ⟨sz, i, none⟩) (Nat.le_refl _) (.int .u64 (wi (sig64 Y X A B)))).drew
          clear W0 W1 W2 W3 W4 d16 d7 HWQ hWq hsq hbq f15 f2 f16 f7 e15 e2 e16 e7
          go_wp2_with fail
          go_roundw
          case rel => exact ⟨i + 1, _, by omega, by omega, by go_num, by rw [List.length_set]; exact HWl.out, fin.out, hW', hst', hb'⟩
          case measure => simp [intOf]; omega
        · obtain rfl : i = 80 := by omega
          have hWs : Hid (W = sched64 M 64) := Lib.hid (by
            have := HWt.out
            rw [List.take_of_length_le (by rw [HWl.out]; omega)] at this
            exact this)
          clear HWt
          rw [show ((80 : Nat) : Int) = 80 from rfl]
          go_wp2_with fail
          have s0 := hst.c_l 0 (by omega)
          have s1 := hst.c_l 1 (by omega)
          have s2 := hst.c_l 2 (by omega)
          have s3 := hst.c_l 3 (by omega)
          have s4 := hst.c_l 4 (by omega)
          have s5 := hst.c_l 5 (by omega)
          have s6 := hst.c_l 6 (by omega)
          have s7 := hst.c_l 7 (by omega)
          simp only [Nat.reduceAdd] at s0 s1 s2 s3 s4 s5 s6 s7
          have hne2 := hne
          go_quiet (fail)
          clear s0 s1 s2 s3 s4 s5 s6 s7
          have hWq : Wds .u64 (wr.drewN nq) sz 129 W := hW.drewN nq
          have hsq : St STy (wr.drewN nq) g h S L r n := hst.drewN _
          have hbq : Below sz w (wr.drewN nq) := below_drewN hb _
          clear hW hst hb
          go_wp2_with fail
          go_loopw [9, 10, 11, 12, 13, 14, 15, 16, 131] (fun a b c d e f g' h' t wr => ∃ (k : Nat) (s : S8 64), k ≤ 80 ∧ t = .int .i64 (k : Int) ∧ s = rounds64 K512 W (S8.of L) k ∧ a = .int .u64 (wi s.a) ∧ b = .int .u64 (wi s.b) ∧ c = .int .u64 (wi s.c) ∧ d = .int .u64 (wi s.d)
              ∧ e = .int .u64 (wi s.e) ∧ f = .int .u64 (wi s.f) ∧ g' = .int .u64 (wi s.g) ∧ h' = .int .u64 (wi s.h) ∧ Wds .u64 wr sz 129 W ∧ St STy wr g h S L r n ∧ Below sz w wr)
            (fun _ _ _ _ _ _ _ _ t _ => 80 - (intOf t).toNat)
          case atStart => exact ⟨0, S8.of L, by omega, rfl, rfl, rfl, rfl, rfl, rfl, rfl, rfl, rfl, rfl, hWq, hsq, hbq⟩
          case round =>
            clear hWq hsq hbq
            obtain ⟨k, s, hk, rfl, hse, rfl, rfl, rfl, rfl, rfl, rfl, rfl, rfl, hW, hst, hb⟩ := hrel
            have HS := Lib.hid hse
            clear hse
            by_cases hlt : k < 80
            · have htr : ShaTabs wr := ht.keep fun p hp => hb.cell (by rw [HSZ.out]; exact hp)
              have kc := htr.k512 k hlt
              have wc := hW.cell k (by rw [HWl.out]; omega)
              obtain ⟨kk, hkk⟩ : ∃ x, x = K512.getD k 0 := ⟨_, rfl⟩
              obtain ⟨ww, hww⟩ : ∃ x, x = W.getD k 0 := ⟨_, rfl⟩
              rw [← hkk] at kc
              rw [← hww] at wc
              have fin : Hid (round64 s kk ww = rounds64 K512 W (S8.of L) (k + 1)) := Lib.hid (by rw [rounds64, ← HS.out, hkk, hww])
              have hk80 : (k : Int) < 80 := by omega
              have W1 := add64
              have W0 := add64m
              have W2 := xor64
              have W3 := and64
              have W4 := or64
              clear hkk hww htr
              go_wp2_with fail
              go_quiet ((exact quiet_of' (Rot64_any _ _ _ (by decide) (by decide))))
              generalize hwq : wr.drewN nq = wq
              have hWq : Wds .u64 wq sz 129 W := by rw [← hwq]; exact hW
              have hsq : St STy wq g h S L r n := by rw [← hwq]; exact hst.drewN _
              have hbq : Below sz w wq := by rw [← hwq]; exact below_drewN hb _
              clear hW hst hb kc wc hwq
              go_wp2_with fail
              refine (Rot64_any _ _ _ (by decide) (by decide)).mono ?_; rintro e w' ⟨rfl, rfl⟩
              go_wp2_with fail
              refine (Rot64_any _ _ _ (by decide) (by decide)).mono ?_; rintro e w' ⟨rfl, rfl⟩
              go_wp2_with fail
              refine (Rot64_any _ _ _ (by decide) (by decide)).mono ?_; rintro e w' ⟨rfl, rfl⟩
              go_wp2_with fail
              go_roundw
              case rel => exact ⟨k + 1, round64 s kk ww, by omega, by go_num, fin.out, rfl, rfl, rfl, rfl, rfl, rfl, rfl, rfl, hWq, hsq, hbq⟩
              case measure => simp [intOf]; omega
            · obtain rfl : k = 80 := by omega
              rw [show ((80 : Nat) : Int) = 80 from rfl]
              obtain ⟨res, hres⟩ : ∃ res, res = ((S8.of L).plus s).list := ⟨_, rfl⟩
              have hrl : Hid (res.length = 8) := Lib.hid (by rw [hres]; rfl)
              have hrn : Hid (res = (block64 K512 (S8.of L) r 0).list) := Lib.hid (by rw [hres, HS.out, block64, hWs.out, HM.out])
              have HR := Lib.hid hres
              clear hres
              have ixs := index8l s
              have hst0 : St STy wr g h S (res.take 0 ++ L.drop 0) r n := hst
              have hgr := only_of_below (HSZ.out ▸ hb) (some g)
              clear HS hst hb
              go_wp2_with fail
              go_loopw [200] (fun t wr => ∃ (k : Nat), k ≤ 8 ∧ t = .int .i64 (k : Int) ∧ St STy wr g h S (res.take k ++ L.drop k) r n ∧ w.grownBy wr (some g))
                (fun t _ => 8 - (intOf t).toNat)
              case atStart => exact ⟨0, by omega, rfl, hst0, hgr⟩
              case round =>
                clear hst0 hgr hW
                obtain ⟨k, hk, rfl, hst, hb⟩ := hrel
                by_cases hlt : k < 8
                · have hix := ixs k hlt
                  have cs := hst.c_l k hlt
                  rw [mix_get _ _ _ _ (by rw [hrl.out]; omega) (by rw [hs.l8]; omega)] at cs
                  have fs := hst.free (9 + k)
                  obtain ⟨x, hx⟩ : ∃ x, x = L.getD k 0 := ⟨_, rfl⟩
                  obtain ⟨y, hy⟩ : ∃ y, y = s.list.getD k 0 := ⟨_, rfl⟩
                  rw [← hx] at cs
                  rw [← hy] at hix
                  have hst' := hst.set_l k hlt (x + y)
                  rw [show (res.take k ++ L.drop k).set k (x + y) = res.take (k + 1) ++ L.drop (k + 1) by
                    rw [show x + y = res.getD k 0 by rw [HR.out, plus_getD _ _ _ hlt, list_of L hs.l8, hx, hy]]
                    exact mix_set _ _ _ _ (by rw [hrl.out]; omega) (by rw [hs.l8]; omega)] at hst'
                  have hk8 : (k : Int) < 8 := by omega
                  have W1 := add64
                  have W0 := add64m
                  clear hx hy hst ixs
                  go_wp2_with fail
                  go_still_tail 11, (by kernel_rfl)
                  change wpList _ _ _ _ _ wr.drew
                  have hst2 := hst'.drew
                  have hb2 := only_drew (only_setCell (p := ⟨g, 9 + k, none⟩) hb (.inl rfl) (.int .u64 (wi (x + y))))
                  go_wp2_with fail
                  go_roundw
                  case rel => exact ⟨k + 1, by omega, by go_num, hst2, hb2⟩
                  case measure => simp [intOf]; omega
                · obtain rfl : k = 8 := by omega
                  rw [show ((8 : Nat) : Int) = 8 from rfl]
                  rw [List.take_of_length_le (by rw [hrl.out]; omega), List.drop_of_length_le (by rw [hs.l8]; omega), List.append_nil, hrn.out] at hst
                  go_wp2_with fail
                  go_end0
                  exact ⟨rfl, hst, hb⟩
end Go.Proofs.YtlolkighnnedfaaDoor
/- package sha: Size, Block, New, block, Write, Copy by their contracts. -/
set_option linter.unusedVariables false
set_option linter.unusedSimpArgs false
namespace Go.Proofs.YtlolkighnnedfaaDoor
open Go.RowKit Go.Sg

theorem Size_c (h : Int) (w : World) : Calls Tryd.prog 133 #[.int .i64 h] w fun e w' => e = .returned (.int .i64 (shaSize h)) ∧ w = w' := by
  by_cases h1 : h = 1
  · subst h1
    go_enter Tryd.func133, Tryd.ntmps133
    go_wp2
    go_ret
    exact ⟨rfl, rfl⟩
  by_cases h2 : h = 2
  · subst h2
    go_enter Tryd.func133, Tryd.ntmps133
    go_wp2
    go_ret
    exact ⟨rfl, rfl⟩
  by_cases h3 : h = 3
  · subst h3
    go_enter Tryd.func133, Tryd.ntmps133
    go_wp2
    go_ret
    exact ⟨rfl, rfl⟩
  have e : Hid (shaSize h = 0) := Lib.hid (by unfold shaSize; rw [if_neg h1, if_neg h2, if_neg h3])
  have g1 : (h == 1) = false := by simpa using h1
  have g2 : (h == 2) = false := by simpa using h2
  have g3 : (h == 3) = false := by simpa using h3
  clear h1 h2 h3
  go_enter Tryd.func133, Tryd.ntmps133
  go_wp2
  go_ret
  exact ⟨by rw [e.out]; rfl, rfl⟩

theorem Block_c (h : Int) (w : World) : Calls Tryd.prog 131 #[.int .i64 h] w fun e w' => e = .returned (.int .i64 (shaBlock h)) ∧ w = w' := by
  by_cases h1 : h = 1
  · subst h1
    go_enter Tryd.func131, Tryd.ntmps131
    go_wp2
    go_ret
    exact ⟨rfl, rfl⟩
  by_cases h2 : h = 2
  · subst h2
    go_enter Tryd.func131, Tryd.ntmps131
    go_wp2
    go_ret
    exact ⟨rfl, rfl⟩
  by_cases h3 : h = 3
  · subst h3
    go_enter Tryd.func131, Tryd.ntmps131
    go_wp2
    go_ret
    exact ⟨rfl, rfl⟩
  have e : Hid (shaBlock h = 0) := Lib.hid (by unfold shaBlock; rw [if_neg h1, if_neg h2, if_neg h3])
  have g1 : (h == 1) = false := by simpa using h1
  have g2 : (h == 2) = false := by simpa using h2
  have g3 : (h == 3) = false := by simpa using h3
  clear h1 h2 h3
  go_enter Tryd.func131, Tryd.ntmps131
  go_wp2
  go_ret
  exact ⟨by rw [e.out]; rfl, rfl⟩

/-! ### block, Write -/
def BlockPost (g : Nat) (h : Int) (S : List (BitVec 32)) (L : List (BitVec 64)) (r : List Int) (n : BitVec 64) (w : World) (e : Ending) (w' : World) : Prop :=
  e = .returned (.tuple #[]) ∧ St STy w' g h (if h = 1 then (block32 K256 (S8.of S) r 0).list else S) (if h = 1 then L else (block64 K512 (S8.of L) r 0).list) r n ∧ w.grownBy w' (some g)

theorem block_c (g : Nat) (h : Int) (S : List (BitVec 32)) (L : List (BitVec 64)) (r : List Int) (n : BitVec 64) (w : World) (hs : St STy w g h S L r n) (ht : ShaTabs w) :
    Calls Tryd.prog 132 #[.pointer (some ⟨g, 0, none⟩)] w (BlockPost g h S L r n w) := by
  have ch := hs.c_h
  by_cases h1 : h = 1
  · subst h1
    go_enter Tryd.func132, Tryd.ntmps132
    go_wp2_with fail
    refine (block32_c g 1 S L r n w hs ht).mono ?_; rintro e w' ⟨rfl, hs', hg⟩
    go_wp2_with fail
    go_end0
    exact ⟨rfl, hs', hg⟩
  · have e1 : (h == 1) = false := by simpa using h1
    have H1 := Lib.hid h1
    clear h1
    go_enter Tryd.func132, Tryd.ntmps132
    go_wp2_with fail
    refine (block64_c g h S L r n w hs ht).mono ?_; rintro e w' ⟨rfl, hs', hg⟩
    go_wp2_with fail
    go_end0
    refine ⟨rfl, ?_, hg⟩
    rw [if_neg H1.out, if_neg H1.out]
    exact hs'

abbrev shaTop : Nat := top5 9 10 5 6 7
/-- A State that has taken in the text T. -/
structure ShaSt (w : World) (g : Nat) (h : Int) (T : List Int) : Prop where
  ex : ∃ S L r, St STy w g h S L r (.ofNat 64 T.length) ∧ Mid h T S L r
  ok : IsHash h
  u8 : U8 T
  far : shaTop ≤ g
theorem ShaSt.lt {w : World} {g : Nat} {h : Int} {T : List Int} (s : ShaSt w g h T) : g < w.heap.size := by obtain ⟨S, L, r, st, _⟩ := s.ex; exact st.lt
theorem ShaSt.keep {w w' : World} {g : Nat} {h : Int} {T : List Int} (s : ShaSt w g h T) (hb : Below w.heap.size w w') : ShaSt w' g h T := by
  obtain ⟨S, L, r, st, m⟩ := s.ex
  exact ⟨⟨S, L, r, st.keep hb, m⟩, s.ok, s.u8, s.far⟩
theorem ShaSt.grown {w w' : World} {g : Nat} {h : Int} {T : List Int} {row : Option Nat} (s : ShaSt w g h T) (hb : w.grownBy w' row) (hg : some g ≠ row) : ShaSt w' g h T := by
  obtain ⟨S, L, r, st, m⟩ := s.ex
  exact ⟨⟨S, L, r, st.grown hb hg, m⟩, s.ok, s.u8, s.far⟩

def WritePost (g : Nat) (h : Int) (T : List Int) (w : World) (e : Ending) (w' : World) : Prop :=
  e = .returned (.tuple #[]) ∧ ShaSt w' g h T ∧ w.grownBy w' (some g)

theorem wi_mod (n sz : Nat) (h : sz = 64 ∨ sz = 128) : wi (BitVec.ofNat 64 n) % (sz : Int) = ((n % sz : Nat) : Int) := by
  rw [wi, BitVec.toNat_ofNat]
  rcases h with rfl | rfl <;> omega
theorem wi_plus (n k : Nat) : wi (BitVec.ofNat 64 n) + (k : Int) = wi (BitVec.ofNat 64 n) + (k : Int) := rfl

set_option maxHeartbeats 4000000 in
set_option maxRecDepth 100000 in
theorem Write_c (g : Nat) (h : Int) (T : List Int) (a : Option Addr) (cap : Nat) (bs : List Int) (w : World) (hs : ShaSt w g h T) (hb : Sl .u8 w a cap bs) (ub : U8 bs) (hap : ∀ b off, a = some ⟨b, off, none⟩ → 0 < bs.length → b ≠ g) (ht : ShaTabs w) :
    Calls Tryd.prog 112 #[.pointer (some ⟨g, 0, none⟩), .slice a bs.length cap] w (WritePost g h (T ++ bs) w) := by
  have hmx := Nat.le_trans hb.le hb.max
  obtain ⟨S0, L0, r0, st0, m0⟩ := hs.ex
  have ch := st0.c_h
  have hh := hs.ok
  obtain ⟨sz, hsz⟩ : ∃ sz, sz = shaBlock h := ⟨_, rfl⟩
  have hs2 : Hid (sz = 64 ∨ sz = 128) := Lib.hid (by rcases hh.block with ⟨_, e⟩ | ⟨_, e⟩ <;> omega)
  have HSZ := Lib.hid hsz
  have bl := Block_c h w
  rw [← hsz] at bl
  have s1 : 64 ≤ sz := by have := hs2.out; omega
  have s2 : sz ≤ 128 := by have := hs2.out; omega
  clear hsz
  go_enter Tryd.func112, Tryd.ntmps112
  go_wp2_with fail
  refine bl.mono ?_; rintro e w' ⟨rfl, rfl⟩
  go_wp2_with fail
  clear ch bl
  go_loopw [1] (fun t wr => ∃ (j : Nat) (a' : Option Addr) (cap' : Nat), j ≤ bs.length ∧ t = .slice a' (bs.length - j) cap' ∧ Sl .u8 wr a' cap' (bs.drop j) ∧ (∀ b off, a' = some ⟨b, off, none⟩ → 0 < bs.length - j → b ≠ g) ∧ ShaSt wr g h (T ++ bs.take j) ∧ w.grownBy wr (some g))
    (fun t _ => match t with | .slice _ n _ => n | _ => 0)
  case atStart => exact ⟨0, a, cap, by omega, rfl, hb, hap, by rw [List.take_zero, List.append_nil]; exact hs, rfl, rfl, rfl, Nat.le_refl _, fun _ _ _ => rfl⟩
  case round =>
    clear st0 m0 hb hap hs
    obtain ⟨j, a', cap', hj, rfl, hb, hap, hs, hg⟩ := hrel
    obtain ⟨m, hm⟩ : ∃ m, m = bs.length - j := ⟨_, rfl⟩
    rw [← hm] at hap ⊢
    have HM := Lib.hid hm
    have hdl : Hid ((bs.drop j).length = m) := Lib.hid (by rw [List.length_drop, hm])
    have hcap : m ≤ cap' := by have := hb.le; rw [hdl.out] at this; exact this
    have hcmx := hb.max
    clear hm
    rcases Nat.eq_zero_or_pos m with h0 | hp
    · subst h0
      have hfin : ShaSt wr g h (T ++ bs) := by rw [List.take_of_length_le (by have := HM.out; omega)] at hs; exact hs
      go_wp2_with fail
      go_end0
      exact ⟨rfl, hfin, hg⟩
    · obtain ⟨S, L, r, st, md⟩ := hs.ex
      obtain ⟨N, hN⟩ : ∃ N, N = (T ++ bs.take j).length := ⟨_, rfl⟩
      rw [← hN] at st
      have cn := st.c_n
      have hmod := wi_mod N sz hs2.out
      obtain ⟨at_, hat⟩ : ∃ at_, at_ = N % sz := ⟨_, rfl⟩
      rw [← hat] at hmod
      have hat1 : at_ < sz := by rw [hat]; exact Nat.mod_lt _ (by omega)
      have hrng := wi_rng64 (BitVec.ofNat 64 N)
      have HN := Lib.hid hN
      have HA := Lib.hid hat
      have hp' : (0 : Int) < (m : Int) := by omega
      have hcut := fun W => cut_array (P := Tryd.prog) W 121 5 128 Tryd.underlying121 size8 g 17 at_ sz (by omega) s2 (by omega) (at_ : Int) (sz : Int) rfl rfl
      have hl1 := st.len
      obtain ⟨kk, hkk⟩ : ∃ kk, kk = min m (sz - at_) := ⟨_, rfl⟩
      have kp : 0 < kk := by omega
      have km : kk ≤ m := by omega
      have ks : at_ + kk ≤ sz := by omega
      have hy : (bs.drop j).take (sz - at_) = (bs.drop j).take kk := by
        rcases Nat.le_total m (sz - at_) with hc | hc
        · rw [List.take_of_length_le (by rw [hdl.out]; omega), List.take_of_length_le (by rw [hdl.out]; omega)]
        · rw [show sz - at_ = kk by omega]
      have HY := Lib.hid hy
      have HKK := Lib.hid hkk
      clear hN hat hy hkk
      go_wp2_with (with_reducible refine wpList_copy_rw rfl (.tmp 28) (.tmp 29) 22 22 rfl 5 Tryd.underlying22 size8 g (17 + at_) (sz - at_) (128 - at_) a' m cap' rfl rfl STy _ .u8 (bs.drop j) st.rw hb.cells hdl.out (by have := HKK.out; omega) (by have := HKK.out; rw [hl1]; omega) ?_)
      intro w1 hk1 hg1 hz1
      rw [← HKK.out] at hk1 ⊢
      have st1 : St STy w1 g h S L (laid r (bs.drop j) at_ kk) (.ofNat 64 N) := ⟨by
          rw [← stCells_copy h S L r (bs.drop j) (.ofNat 64 N) at_ kk (sz - at_) st.s8 st.l8 st.r128 (by omega) HY.out]
          simpa using hk1, st.s8, st.l8, by rw [laid_len _ _ _ _ (by rw [st.r128]; omega) (by rw [hdl.out]; omega)]; exact st.r128, st.u8.laid (ub.drop (by omega) _) _ _⟩
      have sb1 := hb.grown' hg1 (fun b off ha hp e => hap b off ha (by rw [hdl.out] at hp; exact hp) (Option.some.inj e))
      have hg2 := only_trans hg hg1
      have hfar := hs.far
      have eT : (T ++ bs.take j) ++ (bs.drop j).take kk = T ++ bs.take (j + kk) := by rw [List.append_assoc, ← List.take_add]
      have eA : at_ = (T ++ bs.take j).length % shaBlock h := by rw [HA.out, HN.out, HSZ.out]
      have mdg : Hid (at_ + kk < sz → Mid h (T ++ bs.take (j + kk)) S L (laid r (bs.drop j) at_ kk)) := Lib.hid fun hlt => by
        rw [← eT, eA]
        exact md.go hh st.r128 (by rw [hdl.out]; exact km) (by rw [← eA, ← HSZ.out]; exact hlt)
      have mdf : Hid (at_ + kk = sz → Mid h (T ++ bs.take (j + kk)) (if h = 1 then (block32 K256 (S8.of S) (laid r (bs.drop j) at_ kk) 0).list else S)
          (if h = 1 then L else (block64 K512 (S8.of L) (laid r (bs.drop j) at_ kk) 0).list) (laid r (bs.drop j) at_ kk)) := Lib.hid fun he => by
        rw [← eT, eA]
        exact md.full hh st.r128 (by rw [hdl.out]; exact km) (by rw [← eA, ← HSZ.out]; exact he)
      have HN2 : Hid (N + kk = (T ++ bs.take (j + kk)).length) := Lib.hid (by rw [HN.out]; simp; have := HM.out; omega)
      have uT : U8 (T ++ bs.take (j + kk)) := by
        rw [← eT]
        exact hs.u8.append (by omega) ((ub.drop (by omega) _).take (by omega) _)
      clear eT eA md
      clear hk1 hg1 hz1 hb hg st cn hcut hl1
      have cn := st1.c_n
      have fn := st1.free 145
      have hsum : IntKind.u64.wrap (wi (BitVec.ofNat 64 N) + (kk : Int)) = wi (BitVec.ofNat 64 (N + kk)) := by
        rw [IntKind.wrap_u64, wi, wi, BitVec.toNat_ofNat, BitVec.toNat_ofNat]; omega
      have st2 := st1.set_n (.ofNat 64 (N + kk))
      have hg3 := only_setCell (p := ⟨g, 145, none⟩) hg2 (.inl rfl) (.int .u64 (wi (BitVec.ofNat 64 (N + kk))))
      have sb2 := sb1.grown' (grownBy_set w1 ⟨g, 145, none⟩ (.int .u64 (wi (BitVec.ofNat 64 (N + kk))))) (fun b off ha hp e => hap b off ha (by rw [hdl.out] at hp; exact hp) (Option.some.inj e))
      have cut2 := sb2.cut kk (by rw [hdl.out]; exact km)
      rw [List.drop_drop] at cut2
      have hcut2 := fun W => cut_l (P := Tryd.prog) W 22 5 Tryd.underlying22 size8 a' m cap' kk km (kk : Int) rfl
      obtain ⟨a2, ha2⟩ : ∃ a2, a2 = if cap' = kk then a' else a'.map (·.add kk) := ⟨_, rfl⟩
      rw [← ha2] at cut2 hcut2
      have hap2 : ∀ b off, a2 = some ⟨b, off, none⟩ → 0 < bs.length - (j + kk) → b ≠ g := fun b off hb hp => by
        rw [ha2] at hb
        obtain ⟨b', off', rfl, hc⟩ := sb2.cells (by rw [hdl.out]; omega)
        obtain ⟨o2, sp, he⟩ := cut_block hb
        cases he
        exact hap b _ rfl (by omega)
      have mk : m - kk = bs.length - (j + kk) := by have := HM.out; omega
      rw [mk] at hcut2
      have ht3 := ht.grown hg3 hfar
      clear ha2 st1 sb1 sb2 hg2 mk hmod hrng
      by_cases hfull : at_ + kk = sz
      · have e1 : ((at_ : Int) + (kk : Int) == (sz : Int)) = true := by simp; omega
        have md' := mdf.out hfull
        clear hfull mdf mdg
        go_wp2_with fail
        refine (block_c g h S L _ _ _ st2 ht3).mono ?_; rintro e w3 ⟨rfl, st3, hg4⟩
        have hg5 := only_trans hg3 hg4
        have cut3 := cut2.grown' hg4 (fun b off ha hp e => hap2 b off ha (by simpa using hp) (Option.some.inj e))
        rw [HN2.out] at st3
        clear hg3 hg4 cut2 st2 ht3
        go_wp2_with fail
        go_roundw
        case rel => exact ⟨j + kk, a2, _, by have := HM.out; omega, rfl, cut3, hap2, ⟨⟨_, _, _, st3, md'⟩, hh, uT, hfar⟩, hg5⟩
        case measure => have := HM.out; simp; omega
      · have e1 : ((at_ : Int) + (kk : Int) == (sz : Int)) = false := beq_false_of_ne (by omega)
        have md' := mdg.out (by omega)
        have hS : ShaSt (w1.setCell ⟨g, 145, none⟩ (.int .u64 (wi (BitVec.ofNat 64 (N + kk))))) g h (T ++ bs.take (j + kk)) := ⟨⟨_, _, _, by rw [← HN2.out]; exact st2, md'⟩, hh, uT, hfar⟩
        clear hfull mdf mdg st2 md'
        go_wp2_with fail
        go_roundw
        case rel => exact ⟨j + kk, a2, _, by have := HM.out; omega, rfl, cut2, hap2, hS, hg3⟩
        case measure => have := HM.out; simp; omega
end Go.Proofs.YtlolkighnnedfaaDoor
/- package sha: New, Copy by their contracts. -/
set_option linter.unusedVariables false
set_option linter.unusedSimpArgs false
namespace Go.Sg
open Go.RowKit
/-- A value of more cells than one is laid into a new block. -/
theorem wpList_box_rw {P : Program} {w : World} {ops : Array Oper} {rest : List Oper} {o : Oper} {a : Act} {Q : Exit → Act → World → Prop} (hgd : o.guard = none) (T : TypeId) (x : Operand) (ho : o.op = .box T x)
    (vs : List Value) (hx : a.eval x = .agg vs.toArray)
    (h : ∀ w', Rw w' w.heap.size T vs → w'.heap.size = w.heap.size + 1 → Below w.heap.size w w' → wpList P ops Q rest (a.put o.dst (.pointer (some ⟨w.heap.size, 0, none⟩))) w') : wpList P ops Q (o :: rest) a w := by
  refine wpList_plain hgd fun K hK => ?_
  have hrun : (Instr.box T (.agg vs.toArray)).run P w = .ok (.pointer (some ⟨w.heap.size, 0, none⟩)) (w.alloc (.cells vs.toArray T)) := by
    simp [Instr.box, newVar, newRow, Value.cells]
  unfold Oper.wp
  simp [execOp, ho, hx, hrun, Result.andThen]
  exact hK _ _ (h _ (Rw.new _ _ _) (by simp) ((Below.refl _ _).alloc (Nat.le_refl _) _))
end Go.Sg
namespace Go.Proofs.YtlolkighnnedfaaDoor
open Go.RowKit Go.Sg


theorem size8w : (Tryd.prog.info? 95).map (·.size) = some 8 := by kernel_rfl
theorem size8l : (Tryd.prog.info? 120).map (·.size) = some 8 := by kernel_rfl
theorem v32_one (l : List (BitVec 32)) : ∀ v ∈ l.map v32, v.oneCell' = true := by intro v hv; obtain ⟨x, _, rfl⟩ := List.mem_map.1 hv; rfl
theorem v64_one (l : List (BitVec 64)) : ∀ v ∈ l.map v64, v.oneCell' = true := by intro v hv; obtain ⟨x, _, rfl⟩ := List.mem_map.1 hv; rfl
def zr : List Int := List.replicate 128 0
def z32 : List (BitVec 32) := List.replicate 8 0
def z64 : List (BitVec 64) := List.replicate 8 0
theorem stCells_s (h : Int) (S S' : List (BitVec 32)) (L : List (BitVec 64)) (r : List Int) (n : BitVec 64) (hS : S.length = 8) (hS' : S'.length = 8) :
    (stCells h S L r n).take 1 ++ (S'.map v32 ++ (stCells h S L r n).drop (1 + 8)) = stCells h S' L r n := by
  simp [stCells, List.drop_append, hS]
theorem stCells_l (h : Int) (S : List (BitVec 32)) (L L' : List (BitVec 64)) (r : List Int) (n : BitVec 64) (hS : S.length = 8) (hL : L.length = 8) :
    (stCells h S L r n).take 9 ++ (L'.map v64 ++ (stCells h S L r n).drop (9 + 8)) = stCells h S L' r n := by
  simp [stCells, List.take_append, List.drop_append, hS, hL, List.take_of_length_le, List.drop_of_length_le]
theorem zr_u8 : U8 zr := InR.zeros (by omega) _

theorem zeroSt : (Tryd.prog.info? STy).map (fun i => (i.zero, i.size)) = some (some (.agg (stCells 0 z32 z64 zr 0).toArray), 146) := by kernel_rfl

def NewPost (h : Int) (w : World) (e : Ending) (w' : World) : Prop := ∃ g, e = .returned (.pointer (some ⟨g, 0, none⟩)) ∧ w.heap.size ≤ g ∧ ShaSt w' g h [] ∧ Below w.heap.size w w'

set_option maxHeartbeats 1000000 in
set_option maxRecDepth 100000 in
theorem New_1 (w : World) (ht : ShaTabs w) : Calls Tryd.prog 111 #[.int .i64 1] w (NewPost 1 w) := by
  have htop := ht.top
  go_enter Tryd.func111, Tryd.ntmps111
  go_wp2_with (with_reducible refine wpList_box_rw rfl _ _ rfl (stCells 1 z32 z64 zr 0) (by kernel_rfl) ?_)
  intro w1 hk1 hs1 hb1
  have hr := (ht.below hb1).b256
  have hlt : w.heap.size < w1.heap.size := by omega
  go_wp2_with (first | (refine wpList_load_mid rfl 95 (.global 5) rfl 5 0 rfl (start256.list.map v32) _ hr Tryd.underlying95 rfl size8w ?_) | (refine wpList_store_rw rfl 95 (.tmp 13) (.tmp 11) rfl w.heap.size 1 STy _ (start256.list.map v32) rfl rfl hk1 size8w (v32_one _) (by decide) ?_))
  intro w2 hk2 hg2 hs2
  rw [show start256.list.length = 8 from rfl, stCells_s 1 z32 start256.list z64 zr 0#64 rfl rfl] at hk2
  have hb2 := hb1.grown hg2 (by omega) (by simp)
  clear hk1 hg2 hr
  go_wp2_with fail
  go_ret
  exact ⟨w.heap.size, rfl, Nat.le_refl _, ⟨⟨start256.list, z64, zr, ⟨hk2, rfl, rfl, List.length_replicate, zr_u8⟩, ⟨fun h => rfl, fun h => by omega, fun h => by omega, fun i hi => by simp at hi⟩⟩, .inl rfl, .nil (by omega), htop⟩, hb2⟩

set_option maxHeartbeats 1000000 in
set_option maxRecDepth 100000 in
theorem New_2 (w : World) (ht : ShaTabs w) : Calls Tryd.prog 111 #[.int .i64 2] w (NewPost 2 w) := by
  have htop := ht.top
  go_enter Tryd.func111, Tryd.ntmps111
  go_wp2_with (with_reducible refine wpList_box_rw rfl _ _ rfl (stCells 2 z32 z64 zr 0) (by kernel_rfl) ?_)
  intro w1 hk1 hs1 hb1
  have hr := (ht.below hb1).b384
  have hlt : w.heap.size < w1.heap.size := by omega
  go_wp2_with (first | (refine wpList_load_mid rfl 120 (.global 6) rfl 6 0 rfl (start384.list.map v64) _ hr Tryd.underlying120 rfl size8l ?_) | (refine wpList_store_rw rfl 120 (.tmp 19) (.tmp 17) rfl w.heap.size 9 STy _ (start384.list.map v64) rfl rfl hk1 size8l (v64_one _) (by decide) ?_))
  intro w2 hk2 hg2 hs2
  rw [show start384.list.length = 8 from rfl, stCells_l 2 z32 z64 start384.list zr 0#64 rfl rfl] at hk2
  have hb2 := hb1.grown hg2 (by omega) (by simp)
  clear hk1 hg2 hr
  go_wp2_with fail
  go_ret
  exact ⟨w.heap.size, rfl, Nat.le_refl _, ⟨⟨z32, start384.list, zr, ⟨hk2, rfl, rfl, List.length_replicate, zr_u8⟩, ⟨fun h => by omega, fun h => rfl, fun h => by omega, fun i hi => by simp at hi⟩⟩, .inr (.inl rfl), .nil (by omega), htop⟩, hb2⟩

set_option maxHeartbeats 1000000 in
set_option maxRecDepth 100000 in
theorem New_3 (w : World) (ht : ShaTabs w) : Calls Tryd.prog 111 #[.int .i64 3] w (NewPost 3 w) := by
  have htop := ht.top
  go_enter Tryd.func111, Tryd.ntmps111
  go_wp2_with (with_reducible refine wpList_box_rw rfl _ _ rfl (stCells 3 z32 z64 zr 0) (by kernel_rfl) ?_)
  intro w1 hk1 hs1 hb1
  have hr := (ht.below hb1).b512
  have hlt : w.heap.size < w1.heap.size := by omega
  go_wp2_with (first | (refine wpList_load_mid rfl 120 (.global 7) rfl 7 0 rfl (start512.list.map v64) _ hr Tryd.underlying120 rfl size8l ?_) | (refine wpList_store_rw rfl 120 (.tmp 25) (.tmp 23) rfl w.heap.size 9 STy _ (start512.list.map v64) rfl rfl hk1 size8l (v64_one _) (by decide) ?_))
  intro w2 hk2 hg2 hs2
  rw [show start512.list.length = 8 from rfl, stCells_l 3 z32 z64 start512.list zr 0#64 rfl rfl] at hk2
  have hb2 := hb1.grown hg2 (by omega) (by simp)
  clear hk1 hg2 hr
  go_wp2_with fail
  go_ret
  exact ⟨w.heap.size, rfl, Nat.le_refl _, ⟨⟨z32, start512.list, zr, ⟨hk2, rfl, rfl, List.length_replicate, zr_u8⟩, ⟨fun h => by omega, fun h => by omega, fun h => rfl, fun i hi => by simp at hi⟩⟩, .inr (.inr rfl), .nil (by omega), htop⟩, hb2⟩

theorem New_c (h : Int) (hh : IsHash h) (w : World) (ht : ShaTabs w) : Calls Tryd.prog 111 #[.int .i64 h] w (NewPost h w) := by
  rcases hh with rfl | rfl | rfl
  · exact New_1 w ht
  · exact New_2 w ht
  · exact New_3 w ht
set_option maxHeartbeats 1000000 in
set_option maxRecDepth 100000 in
theorem New_no (h : Int) (hh : ¬ IsHash h) (w : World) : Calls Tryd.prog 111 #[.int .i64 h] w fun e w' => e = .returned (.pointer none) ∧ Below w.heap.size w w' := by
  have g1 : (h == 1) = false := beq_false_of_ne fun e => hh (.inl e)
  have g2 : (h == 2) = false := beq_false_of_ne fun e => hh (.inr (.inl e))
  have g3 : (h == 3) = false := beq_false_of_ne fun e => hh (.inr (.inr e))
  go_enter Tryd.func111, Tryd.ntmps111
  go_wp2_with (with_reducible refine wpList_box_rw rfl _ _ rfl (stCells h z32 z64 zr 0) (by kernel_rfl) ?_)
  intro w1 hk1 hs1 hb1
  go_wp2_with fail
  go_ret
  exact ⟨rfl, hb1⟩

/-! ### Copy -/
theorem sizeSt : (Tryd.prog.info? STy).map (·.size) = some 146 := by kernel_rfl
theorem stCells_one (h : Int) (S : List (BitVec 32)) (L : List (BitVec 64)) (r : List Int) (n : BitVec 64) : ∀ v ∈ stCells h S L r n, v.oneCell' = true := by
  intro v hv
  simp only [stCells, List.mem_cons, List.mem_append, List.mem_map, List.not_mem_nil, or_false] at hv
  rcases hv with rfl | ⟨x, _, rfl⟩ | ⟨x, _, rfl⟩ | ⟨x, _, rfl⟩ | rfl <;> rfl
end Go.Proofs.YtlolkighnnedfaaDoor
/- package sha: Sum of a State by its contract. -/
set_option linter.unusedVariables false
set_option linter.unusedSimpArgs false
namespace Go.Sg

def shaField (h : Int) : Nat := shaBlock h / 8
theorem gap_test {sz f : Nat} (h : (sz = 64 ∧ f = 8) ∨ (sz = 128 ∧ f = 16)) (n j : Nat) (hj : j ≤ gap sz f n) : ((n % sz + (1 + j)) % sz = sz - f) ↔ j = gap sz f n := by
  unfold gap at *
  rcases h with ⟨rfl, rfl⟩ | ⟨rfl, rfl⟩ <;> omega
theorem gap_le {sz f : Nat} (h : (sz = 64 ∧ f = 8) ∨ (sz = 128 ∧ f = 16)) (n : Nat) : gap sz f n < sz := by
  unfold gap
  rcases h with ⟨rfl, rfl⟩ | ⟨rfl, rfl⟩ <;> omega
theorem lenB_len (n k : Nat) : (lenB n k).length = k := by simp [lenB]
theorem lenB_take_next (n k c : Nat) (hc : c < k) : (lenB n k).take (k - c) = (lenB n k).take (k - (c + 1)) ++ [((8 * n / 256 ^ c % 256 : Nat) : Int)] := by
  rw [show k - c = (k - (c + 1)) + 1 by omega, take_succ_nth _ _ (by rw [lenB_len]; omega)]
  congr 2
  simp only [nth, lenB, List.getD_eq_getElem?_getD, List.getElem?_map, List.getElem?_range (show k - (c + 1) < k by omega), Option.map_some, Option.getD_some]
  rw [show k - 1 - (k - (c + 1)) = c by omega]
theorem lenB_u8 (n k : Nat) : U8 (lenB n k) := .of_mem (by omega) (by
  intro x hx
  obtain ⟨i, _, rfl⟩ := List.mem_map.1 hx
  omega)
theorem tail_u8 (b f n : Nat) : U8 (tail_ b f n) := by
  unfold tail_
  rw [show (128 :: (List.replicate (gap b f n) 0 ++ lenB n f) : List Int) = [128] ++ (List.replicate (gap b f n) 0 ++ lenB n f) from rfl]
  exact (InR.one (by omega) (by omega)).append (by omega) ((InR.zeros (by omega) _).append (by omega) (lenB_u8 _ _))
theorem tail_len (b f n : Nat) : (tail_ b f n).length = 1 + gap b f n + f := by simp [tail_, lenB_len]; omega
theorem padded_len (b f : Nat) (bs : List Int) : (padded b f bs).length = bs.length + (1 + gap b f bs.length + f) := by rw [padded, List.length_append, tail_len]
theorem bytes32_len (v : BitVec 32) : (bytes32 v).length = 4 := rfl
theorem bytes64_len (v : BitVec 64) : (bytes64 v).length = 8 := by simp [bytes64]
theorem flat32_len (l : List (BitVec 32)) : (l.flatMap bytes32).length = 4 * l.length := by
  induction l with
  | nil => rfl
  | cons x l ih => simp [ih, bytes32_len]; omega
theorem flat64_len (l : List (BitVec 64)) : (l.flatMap bytes64).length = 8 * l.length := by
  induction l with
  | nil => rfl
  | cons x l ih => simp [ih, bytes64_len]; omega
theorem flat32_next (l : List (BitVec 32)) (k : Nat) (h : k < l.length) : (l.take (k + 1)).flatMap bytes32 = (l.take k).flatMap bytes32 ++ bytes32 (l.getD k 0) := by
  rw [List.take_succ_eq_append_getElem h, List.flatMap_append]; simp [h]
theorem flat64_next (l : List (BitVec 64)) (k : Nat) (h : k < l.length) : (l.take (k + 1)).flatMap bytes64 = (l.take k).flatMap bytes64 ++ bytes64 (l.getD k 0) := by
  rw [List.take_succ_eq_append_getElem h, List.flatMap_append]; simp [h]
theorem bytes64_next (v : BitVec 64) (c : Nat) (hc : c < 8) : (bytes64 v).take (8 - c) = (bytes64 v).take (8 - (c + 1)) ++ [((v.toNat / 256 ^ c % 256 : Nat) : Int)] := by
  rw [show 8 - c = (8 - (c + 1)) + 1 by omega, take_succ_nth _ _ (by rw [bytes64_len]; omega)]
  congr 2
  simp only [nth, bytes64, List.getD_eq_getElem?_getD, List.getElem?_map, List.getElem?_range (show 8 - (c + 1) < 8 by omega), Option.map_some, Option.getD_some]
  rw [show 7 - (8 - (c + 1)) = c by omega]
theorem bytes32_u8 (v : BitVec 32) : U8 (bytes32 v) := .of_mem (by omega) (by
  intro x hx
  simp [bytes32] at hx
  omega)
theorem bytes64_u8 (v : BitVec 64) : U8 (bytes64 v) := .of_mem (by omega) (by
  intro x hx
  obtain ⟨i, _, rfl⟩ := List.mem_map.1 hx
  omega)
theorem flat32_u8 (l : List (BitVec 32)) : U8 (l.flatMap bytes32) := by
  induction l with
  | nil => exact .nil (by omega)
  | cons x l ih => simp only [List.flatMap_cons]; exact (bytes32_u8 x).append (by omega) ih
theorem flat64_u8 (l : List (BitVec 64)) : U8 (l.flatMap bytes64) := by
  induction l with
  | nil => exact .nil (by omega)
  | cons x l ih => simp only [List.flatMap_cons]; exact (bytes64_u8 x).append (by omega) ih
theorem sha_u8 (h : Int) (bs : List Int) : U8 (sha h bs) := by
  unfold sha
  by_cases h1 : h = 1
  · rw [if_pos h1]; exact flat32_u8 _
  by_cases h2 : h = 2
  · rw [if_neg h1, if_pos h2]; exact (flat64_u8 _).take (by omega) _
  by_cases h3 : h = 3
  · rw [if_neg h1, if_neg h2, if_pos h3]; exact flat64_u8 _
  rw [if_neg h1, if_neg h2, if_neg h3]; exact .nil (by omega)
theorem sha_len (h : Int) (bs : List Int) : (sha h bs).length = shaSize h := by
  unfold sha shaSize
  by_cases h1 : h = 1
  · rw [if_pos h1, if_pos h1]; exact flat32_len _
  by_cases h2 : h = 2
  · rw [if_neg h1, if_pos h2, if_neg h1, if_pos h2, List.length_take]; unfold sum64; rw [flat64_len]; rfl
  by_cases h3 : h = 3
  · rw [if_neg h1, if_neg h2, if_pos h3, if_neg h1, if_neg h2, if_pos h3]; exact flat64_len _
  rw [if_neg h1, if_neg h2, if_neg h3, if_neg h1, if_neg h2, if_neg h3]; rfl
theorem getD8 {n : Nat} (S : List (BitVec n)) (h : S.length = 8) : ∃ a b c d e f g i, S = [a, b, c, d, e, f, g, i] := by
  match S, h with
  | [a, b, c, d, e, f, g, i], _ => exact ⟨a, b, c, d, e, f, g, i, rfl⟩
end Go.Sg
namespace Go.Proofs.YtlolkighnnedfaaDoor
open Go.RowKit Go.Sg

theorem ix32 (S : List (BitVec 32)) (hS : S.length = 8) (k : Nat) (hk : k < 8) (W : World) :
    (Instr.index 95 (.agg (S.map v32).toArray) (.int .i64 (k : Int))).run Tryd.prog W = .ok (.int .u32 (wi (S.getD k 0))) W := by
  obtain ⟨a, b, c, d, e, f, g, i, rfl⟩ := getD8 S hS
  rcases (show k = 0 ∨ k = 1 ∨ k = 2 ∨ k = 3 ∨ k = 4 ∨ k = 5 ∨ k = 6 ∨ k = 7 by omega) with rfl | rfl | rfl | rfl | rfl | rfl | rfl | rfl
  all_goals kernel_rfl
theorem ix64 (S : List (BitVec 64)) (hS : S.length = 8) (k : Nat) (hk : k < 8) (W : World) :
    (Instr.index 120 (.agg (S.map v64).toArray) (.int .i64 (k : Int))).run Tryd.prog W = .ok (.int .u64 (wi (S.getD k 0))) W := by
  obtain ⟨a, b, c, d, e, f, g, i, rfl⟩ := getD8 S hS
  rcases (show k = 0 ∨ k = 1 ∨ k = 2 ∨ k = 3 ∨ k = 4 ∨ k = 5 ∨ k = 6 ∨ k = 7 by omega) with rfl | rfl | rfl | rfl | rfl | rfl | rfl | rfl
  all_goals kernel_rfl
end Go.Proofs.YtlolkighnnedfaaDoor
