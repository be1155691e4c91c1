/- signetlaw36: lists, hash, clash by their contracts. -/
import Derived.Test.YtmbifokiebjmmaaDoorLogS
import Derived.Test.YtmbifokiebjmmaaDoorMkN
set_option linter.unusedVariables false
set_option linter.unusedSimpArgs false
namespace Go.Sg
open Go.RowKit
theorem wpList_index_str {P : Program} {w : World} {ops : Array Oper} {rest : List Oper} {o : Oper} {a : Act} {Q : Exit → Act → World → Prop} (hgd : o.guard = none) (ty : TypeId) (x i : Operand) (ho : o.op = .index ty x i) (xs : List Int) (ux : U8 xs) (hx : a.eval x = str xs) (j : Nat) (hi : a.eval i = .int .i64 (j : Int)) (hj : j < xs.length)
    (hu : P.underlying ty = some .string) (y : Int) (hy : y = nth xs j) (h : wpList P ops Q rest (a.put o.dst (.int .u8 y)) w) : wpList P ops Q (o :: rest) a w := by
  subst hy
  have hsz : j < (strOfNums xs).size := by rw [strOfNums_size]; exact hj
  have hr := run_index_string (P := P) w ty (strOfNums xs) .i64 (j : Int) hu
  rw [dif_pos ⟨by omega, by omega⟩] at hr
  have e := str_nth ux j hsz
  simp only [Int.toNat_natCast] at hr
  rw [e] at hr
  refine wpList_plain hgd fun K hK => ?_
  unfold Oper.wp execOp
  simp only [ho, hx, hi, Sem.run_bind, Sem.run_pure, hr, Result.andThen_ok]
  exact hK _ _ h
theorem fill_step (s : List Int) (j r : Nat) (hj : j < s.length) (hr : 0 < r) : (s.take j ++ List.replicate r (0 : Int)).set j (nth s j) = s.take (j + 1) ++ List.replicate (r - 1) 0 := by
  obtain ⟨r', rfl⟩ : ∃ r', r = r' + 1 := ⟨r - 1, by omega⟩
  rw [List.set_append_right _ _ (by rw [List.length_take]; omega), List.length_take, Nat.min_eq_left (by omega), Nat.sub_self, List.replicate_succ, List.set_cons_zero, take_succ_nth _ _ hj, List.append_assoc]
  rfl
theorem mark_step (s : List Int) (y : Int) (j r : Nat) (hr : 0 < r) : (s ++ (List.replicate j y ++ List.replicate r (0 : Int))).set (s.length + j) y = s ++ (List.replicate (j + 1) y ++ List.replicate (r - 1) 0) := by
  obtain ⟨r', rfl⟩ : ∃ r', r = r' + 1 := ⟨r - 1, by omega⟩
  rw [List.set_append_right _ _ (by omega), Nat.add_sub_cancel_left, List.set_append_right _ _ (by rw [List.length_replicate]; omega), List.length_replicate, Nat.sub_self, List.replicate_succ (n := r'), List.set_cons_zero, List.replicate_succ' (n := j), List.append_assoc]
  rfl
end Go.Sg
namespace Go.Proofs.YtmbifokiebjmmaaDoor
open Go.RowKit Go.Sg
abbrev MkW (B : Nat) (w : World) (l : Value) (G : Nat → Nat) (ss : List (List Int)) := MkL B 5 25 w l G ss
def ListsPost (ss : List (List Int)) (w : World) (e : Ending) (w' : World) : Prop := ∃ v G, e = .returned v ∧ MkW w.heap.size w' v G ss ∧ Below w.heap.size w w'
theorem infoL : (Tryd.prog.info? 25).map (fun i => (i.zero, i.size, i.bytes)) = some (some (.slice none 0 0), 1, 24) := by kernel_rfl

set_option maxHeartbeats 16000000 in
set_option maxRecDepth 20000 in
theorem lists_c (A : Option Addr) (cap : Nat) (ss : List (List Int)) (w : World) (hs : Ss w A cap ss) (hl : ∀ s ∈ ss, s.length ≤ 4294967296) (hn : ss.length ≤ 4294967296) :
    Calls Tryd.prog 11 #[.slice A ss.length cap] w (ListsPost ss w) := by
  obtain ⟨n, hn'⟩ : ∃ n, n = ss.length := ⟨_, rfl⟩
  have HN := Lib.hid hn'
  rw [← hn'] at hn ⊢
  clear hn'
  go_enter Tryd.func11, Tryd.ntmps11
  go_wp2_with fail
  go_loopw [3, 4] (fun v t wr => ∃ (k : Nat) (G : Nat → Nat), k ≤ n ∧ t = .int .i64 (k : Int) ∧ MkW w.heap.size wr v G (ss.take k) ∧ Below w.heap.size w wr) (fun _ t _ => n - (intOf t).toNat)
  case atStart => exact ⟨0, fun _ => 0, by omega, rfl, .nil _ _ _ _ _, .refl _ _⟩
  case round =>
    obtain ⟨k, G, hk, rfl, hv, hb⟩ := hrel
    obtain ⟨av, cv, rfl⟩ := hv.sl
    have lk : (ss.take k).length = k := by rw [List.length_take, ← HN.out]; omega
    rw [lk] at hv ⊢
    have LK := Lib.hid lk
    clear lk
    by_cases hlt : k < n
    · have hd : decide ((k : Int) < (n : Int)) = true := decide_eq_true (by omega)
      have hki : (k : Int) < (n : Int) := by omega
      obtain ⟨b, off, rfl, hc⟩ := (hs.below hb).at_ (by have := HN.out; omega)
      have ck := hc k (by have := HN.out; omega)
      obtain ⟨s, hsk⟩ : ∃ s, s = ss[k]'(by have := HN.out; omega) := ⟨_, rfl⟩
      have hmem : s ∈ ss := by rw [hsk]; exact List.getElem_mem _
      rw [← hsk] at ck
      have et : Hid (ss.take (k + 1) = ss.take k ++ [s]) := Lib.hid (by
        rw [List.take_add_one, List.getElem?_eq_getElem (by have := HN.out; omega), ← hsk]
        rfl)
      have us := hs.u8 s hmem
      obtain ⟨m, hm⟩ : ∃ m, m = s.length := ⟨_, rfl⟩
      have hml : m ≤ 4294967296 := by rw [hm]; exact hl s hmem
      have sz : (strOfNums s).size = m := by rw [strOfNums_size, hm]
      have HM := Lib.hid hm
      have hrow : b < wr.heap.size := World.block_lt_of_cell? _ _ ck
      clear hc hsk hm
      go_wp2_with (at_make; refine wpList_make_room _ rfl _ _ 25 rfl 5 .u8 1 Tryd.underlying25 info8s (m + 70) _ rfl rfl (by omega) (by omega) (by omega) ?_)
      intro w1 hk1 hs1 hb1
      obtain ⟨g, hg⟩ : ∃ g, g = wr.heap.size := ⟨_, rfl⟩
      rw [← hg] at hk1 ⊢
      have HG := Lib.hid hg
      have hv1 := hv.keep hb1
      have hB1 := hb.trans (hb1.mono hb.size)
      have ck1 : w1.cell? ⟨b, off + k, none⟩ = some (str s) := by rw [World.cell?_of_block (w := wr) (hb1.block b hrow)]; exact ck
      have gw : w.heap.size ≤ g := by rw [hg]; exact hb.size
      have NE : Hid (b ≠ g ∧ (∀ j, j < k → G j ≠ g) ∧ (∀ c, (Value.slice av k cv).ownBlock = some c → c ≠ g)) := Lib.hid ⟨by omega, fun j hj e => by
        have := (hv.blk j (by rw [LK.out]; exact hj)).2.lt
        omega, fun c hc2 e => by
        have := (hv.row.lt c hc2).2
        omega⟩
      clear hv hb hs1 hb1 hg hrow ck
      go_wp2_with fail
      have e0 : List.replicate (m + 70) (0 : Int) = s.take 0 ++ List.replicate (m + 70 - 0) 0 := by simp
      rw [e0] at hk1
      have g0 := World.grownBy.refl w1 (some g)
      go_loopw [5, 6] (fun u t wr => ∃ j : Nat, j ≤ m ∧ t = .int .i64 (j : Int) ∧ u = .slice (some ⟨g, 0, none⟩) j (m + 70) ∧ Blk wr g .u8 5 (s.take j ++ List.replicate (m + 70 - j) 0) ∧ w1.grownBy wr (some g)) (fun _ t _ => m - (intOf t).toNat)
      case atStart => exact ⟨0, by omega, rfl, rfl, hk1, g0⟩
      case round =>
        clear hk1 g0 e0
        obtain ⟨j, hj, rfl, rfl, hk2, g2⟩ := hrel
        have ck2 : wr.cell? ⟨b, off + k, none⟩ = some (str s) := by rw [World.cell?_of_block (w := w1) (g2.block b (World.block_lt_of_cell? _ _ ck1) (fun e => NE.out.1 (Option.some.inj e)))]; exact ck1
        by_cases hjm : j < m
        · have hd2 : decide ((j : Int) < (m : Int)) = true := decide_eq_true (by omega)
          have hjmi : (j : Int) < (m : Int) := by omega
          obtain ⟨y, hy⟩ : ∃ y, y = nth s j := ⟨_, rfl⟩
          have al := World.grownBy_alloc wr (.cells #[.int .u8 y] 5) (some g)
          have hk3 := hk2.alloc (.cells #[.int .u8 y] 5)
          have hln : (s.take j ++ List.replicate (m + 70 - j) (0 : Int)).length = m + 70 := by rw [List.length_append, List.length_take, List.length_replicate, ← HM.out]; omega
          have HY := Lib.hid hy
          clear hk2 hy
          go_wp2_with (first | (refine wpList_index_str rfl 9 _ _ rfl s us rfl j rfl (by rw [← HM.out]; exact hjm) Tryd.underlying9 y HY.out ?_) | (at_builtin; refine wpList_append_in rfl _ _ 25 rfl 5 .u8 1 Tryd.underlying25 info8s g j (m + 70) _ rfl hk3 hln.symm (by rw [hln]; omega) _ 1 y rfl (cells_one _ _ _ _ _ rfl) ?_))
          intro w3 hk4 hg4 hs4
          rw [HY.out, fill_step s j _ (by rw [← HM.out]; exact hjm) (by omega), show m + 70 - j - 1 = m + 70 - (j + 1) by omega] at hk4
          have g4 := grownBy_trans (grownBy_trans g2 al) hg4
          clear hk3 hg4 al hs4
          go_wp2_with fail
          go_roundw
          case rel => exact ⟨j + 1, by omega, by go_num, rfl, hk4, g4⟩
          case measure => simp [intOf]; omega
        · obtain rfl : j = m := by omega
          have hd2 : decide ((j : Int) < (j : Int)) = false := by simp
          have hk5 : Blk wr g .u8 5 (s ++ (List.replicate 0 (mk36 k) ++ List.replicate (70 - 0) 0)) := by
            rw [List.take_of_length_le (by rw [← HM.out]; omega), show j + 70 - j = 70 by omega] at hk2
            exact hk2
          go_wp2_with fail
          go_loopw [7, 8] (fun u t wr => ∃ q : Nat, q ≤ 70 ∧ t = .int .i64 (q : Int) ∧ u = .slice (some ⟨g, 0, none⟩) (j + q) (j + 70) ∧ Blk wr g .u8 5 (s ++ (List.replicate q (mk36 k) ++ List.replicate (70 - q) 0)) ∧ w1.grownBy wr (some g)) (fun _ t _ => 70 - (intOf t).toNat)
          case atStart => exact ⟨0, by omega, rfl, rfl, hk5, g2⟩
          case round =>
            clear hk5 hk2 g2 ck2
            obtain ⟨q, hq, rfl, rfl, hk2, g2⟩ := hrel
            by_cases hq70 : q < 70
            · have hd3 : decide ((q : Int) < 70) = true := decide_eq_true (by omega)
              have hqi : (q : Int) < 70 := by omega
              obtain ⟨y, hy⟩ : ∃ y, y = mk36 k := ⟨_, rfl⟩
              have ye : (1 : Int) + ((k : Int) % 250) = y := by rw [hy]; unfold mk36; omega
              have yw : IntKind.u8.wrap y = y := by rw [IntKind.wrap_u8']; have := mk36_rng k; omega
              have al := World.grownBy_alloc wr (.cells #[.int .u8 y] 5) (some g)
              rw [← hy] at hk2
              have hk3 := hk2.alloc (.cells #[.int .u8 y] 5)
              have hln : (s ++ (List.replicate q y ++ List.replicate (70 - q) (0 : Int))).length = j + 70 := by rw [List.length_append, List.length_append, List.length_replicate, List.length_replicate, ← HM.out]; omega
              have HY := Lib.hid hy
              clear hk2 hy
              go_wp2_with (at_builtin; refine wpList_append_in rfl _ _ 25 rfl 5 .u8 1 Tryd.underlying25 info8s g (j + q) (j + 70) _ rfl hk3 hln.symm (by rw [hln]; omega) _ 1 y rfl (cells_one _ _ _ _ _ rfl) ?_)
              intro w3 hk4 hg4 hs4
              rw [show j + q = s.length + q by rw [← HM.out], mark_step s y q _ (by omega), show 70 - q - 1 = 70 - (q + 1) by omega, HY.out] at hk4
              have g4 := grownBy_trans (grownBy_trans g2 al) hg4
              clear hk3 hg4 al hs4
              go_wp2_with fail
              go_roundw
              case rel => exact ⟨q + 1, by omega, by go_num, rfl, hk4, g4⟩
              case measure => simp [intOf]; omega
            · obtain rfl : q = 70 := by omega
              have hk6 : Blk wr g .u8 5 (s ++ mks36 k) := by
                rw [show List.replicate 70 (mk36 k) ++ List.replicate (70 - 70) (0 : Int) = mks36 k by simp [mks36]] at hk2
                exact hk2
              have hv2 : MkW w.heap.size wr (.slice av k cv) G (ss.take k) := MkL.grown hv1 g2 (by
                cases ho : (Value.slice av k cv).ownBlock with
                | none => exact .inl rfl
                | some c => exact .inr fun e => NE.out.2.2 c ho (Option.some.inj e)) (fun q hq e => NE.out.2.1 q (by rw [LK.out] at hq; exact hq) (Option.some.inj e))
              have hB2 := hB1.grown g2 hB1.size (by intro c hc; cases hc; exact gw)
              have al := (Below.refl wr.heap.size wr).alloc (Nat.le_refl _) (.cells #[.slice (some ⟨g, 0, none⟩) j (j + 70)] 25)
              have hv3 := hv2.keep al
              have hk7 := hk6.alloc (.cells #[.slice (some ⟨g, 0, none⟩) j (j + 70)] 25)
              have hB3 := hB2.trans (al.mono hB2.size)
              have hd4 : decide ((70 : Int) < 70) = false := by decide
              rw [show ((70 : Nat) : Int) = 70 from rfl]
              clear hk2 hk6 hv1 hv2 g2 hB1 hB2 al
              have rowk := hv3.row
              have LKR : ((List.range (ss.take k).length).map (mval G (ss.take k))).length = k := by rw [List.length_map, List.length_range, LK.out]
              have LKH := Lib.hid LKR
              clear LKR
              go_wp2_with (at_builtin; refine wpList_append_newV _ rfl _ _ 23 rfl w.heap.size 25 24 Tryd.underlying23 infoL _ _ rfl rowk _ 1 (.slice (some ⟨g, 0, none⟩) j (j + 70)) ⟨_, _, _, rfl⟩ rfl (cell_new1 _ _ _ _) (by rw [LKH.out]; omega) (by rw [LKH.out]; omega) hB3.size ?_)
              intro v' w9 hv9 hg9 ho9
              have hB9 := hB3.grown hg9 hB3.size (fun c hc => (rowk.lt c hc).1)
              have fin := MkL.push (s := s) (g := g) hv3 (by rw [LK.out]; exact hk7) gw (fun q hq => NE.out.2.1 q (by rw [LK.out] at hq; exact hq)) (by decide) (v' := v') (by rw [← HM.out, List.length_take]; exact hv9) hg9 (fun c hc => ⟨NE.out.2.2 c hc, fun q hq => hv3.aside (by decide) hq c hc⟩)
              rw [← et.out] at fin
              clear hv3 hk7 hB3 hg9 ho9 hv9 rowk
              go_wp2_with fail
              go_roundw
              case rel => exact ⟨k + 1, _, by omega, by go_num, fin, hB9⟩
              case measure => simp [intOf]; omega
    · obtain rfl : k = n := by omega
      have hd : decide ((k : Int) < (k : Int)) = false := by simp
      rw [List.take_of_length_le (by rw [← HN.out]; omega)] at hv
      go_wp2_with fail
      go_ret
      exact ⟨_, G, rfl, hv, hb⟩
end Go.Proofs.YtmbifokiebjmmaaDoor
