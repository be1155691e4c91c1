import Derived.Test.YtmbifokiebjmmaaDoorZ23
import Derived.Test.YtmbifokiebjmmaaDoorZ21
import Derived.Lib.AppendStr
/- signetlaw36: laid, kept of one list, by their contracts. (Printed by gen_logpb.py.) -/
set_option linter.unusedVariables false
set_option linter.unusedSimpArgs false
namespace Go.Sg
open Go.RowKit
theorem strCells_nums {ys : List Int} (u : U8 ys) : Lib.strCells (strOfNums ys) = ys.map (Value.int .u8) := by
  have hs : (strOfNums ys).size = ys.length := strOfNums_size ys
  apply List.ext_getElem
  · rw [Lib.strCells_length, List.length_map, hs]
  · intro i h1 h2
    have hi : i < ys.length := by simpa using h2
    have hsz : i < (strOfNums ys).size := by omega
    have := str_nth u i hsz
    simp only [Lib.strCells, List.getElem_map]
    rw [show ((strOfNums ys).data.toList[i]'(by simpa [Lib.strCells] using h1)) = (strOfNums ys)[i]'hsz from rfl, this, nth_get _ _ hi]
/-- A string's bytes at the head of a row that has room. -/
theorem wpList_append_str_in {P : Program} {w : World} {ops : Array Oper} {rest : List Oper} {o : Oper} {a : Act} {Q : Exit → Act → World → Prop} (hgd : o.guard = none) (s x : Operand) (t u : TypeId)
    (ho : o.op = .call { callee := .builtin .append, args := #[s, x], argTypes := #[t, u] }) (e : TypeId) (ht : P.underlying t = some (.slice e)) (hu : P.underlying u = some .string) (hi : (P.info? e).map (fun i => (i.zero, i.size, i.bytes)) = some (some (.int .u8 0), 1, 1))
    (g c : Nat) (xs ys : List Int) (hs : a.eval s = .slice (some ⟨g, 0, none⟩) 0 c) (h : Blk w g .u8 e xs) (hc : c = xs.length) (hx : a.eval x = str ys) (uy : U8 ys) (hl : ys.length ≤ c)
    (hK : ∀ w', Blk w' g .u8 e (ys ++ xs.drop ys.length) → w.grownBy w' (some g) → w'.heap.size = w.heap.size → wpList P ops Q rest (a.put o.dst (.slice (some ⟨g, 0, none⟩) ys.length c)) w') : wpList P ops Q (o :: rest) a w := by
  obtain ⟨i, hi0, hz, hsz, hby⟩ := info1 hi
  refine wpList_plain hgd fun K hK' => ?_
  have hz : (strOfNums ys).size = ys.length := strOfNums_size ys
  have hr := Lib.run_append_room_string (P := P) w t u o.type e i ht hu hi0 hsz g 0 c _ h (strOfNums ys) (by omega) (by simp; omega)
  rw [strCells_nums uy, hz, Nat.zero_add] at hr
  unfold Oper.wp execOp
  simp only [ho, resolve, invoke, builtin, Sem.run_bind, Sem.run_pure, Result.andThen_ok, List.map_toArray, List.map_cons, List.map_nil, hs, hx, hr]
  refine hK' _ _ (hK _ ?_ ⟨rfl, rfl, rfl, by simp, fun j _ hk => setRow_other w g j _ (fun ee => hk (by simp [ee]))⟩ (by simp))
  rw [Blk, setRow_heap w g _ _ e (0, 0) h]
  congr 2
  apply Array.toList_inj.1
  simp
/-- One list of bytes, with its 70 marks behind it. -/
def Laid1 (E : TypeId) (g z cap : Nat) (s : List Int) (w : World) : Prop := ∃ xs, Blk w g .u8 E xs ∧ z = s.length ∧ z + 70 ≤ cap ∧ cap ≤ xs.length ∧ cap ≤ 9223372036854775807 ∧ xs.take (z + 70) = s ++ mks36 0
section
variable {E : TypeId} {g z cap : Nat} {s : List Int} {w w' : World}
theorem Laid1.keep (h : Laid1 E g z cap s w) (hb : Below w.heap.size w w') : Laid1 E g z cap s w' := by
  obtain ⟨xs, hk, r⟩ := h
  exact ⟨xs, hk.below hb hk.lt, r⟩
theorem Laid1.drewN (h : Laid1 E g z cap s w) (k : Nat) : Laid1 E g z cap s (w.drewN k) := h
theorem Laid1.sl (h : Laid1 E g z cap s w) : Sl .u8 w (some ⟨g, 0, none⟩) cap s := by
  obtain ⟨xs, hk, hz, h1, h2, h3, h4⟩ := h
  have := hk.sl z cap (by omega) h3
  have e : xs.take z = s := by
    have h5 : (xs.take (z + 70)).take z = (s ++ mks36 0).take z := by rw [h4]
    rw [List.take_take, Nat.min_eq_left (by omega), hz, List.take_left] at h5
    rw [hz]; exact h5
  rwa [e] at this
theorem Laid1.mark (h : Laid1 E g z cap s w) {q : Nat} (hq : q < 70) : w.cell? ⟨g, z + q, none⟩ = some (.int .u8 1) := by
  obtain ⟨xs, hk, hz, h1, h2, h3, h4⟩ := h
  have hl : (s ++ mks36 0).length = z + 70 := by rw [List.length_append, mks36_len, hz]
  rw [hk.cell (z + q) (by omega)]
  have h5 : nth (xs.take (z + 70)) (z + q) = nth xs (z + q) := nth_take _ _ _ (by omega)
  rw [← h5, h4, hz, nth_append_right]
  unfold mks36
  rw [nth_replicate _ _ _ hq]
  rfl
end
end Go.Sg
namespace Go.Proofs.YtmbifokiebjmmaaDoor
open Go.RowKit Go.Sg
theorem size8P : (Tryd.prog.info? 5).map (·.size) = some 1 := by kernel_rfl
/-- What is no row of bytes stays. -/
abbrev KeepB (w w' : World) : Prop := KeepT 5 5 w w'
theorem KeepB.log {B g : Nat} {w w' : World} {ds : List (List Int)} (h : KeepB w w') (hl : LogAt B w g ds) : LogAt B w' g ds :=
  hl.by_blocks fun c cs T z hc hT => h.2 c cs T z hc (by rcases hT with e | e <;> rw [e] <;> decide) (by rcases hT with e | e <;> rw [e] <;> decide)
set_option maxHeartbeats 16000000 in
set_option maxRecDepth 20000 in
theorem kept1_c (gl cl gb z cap : Nat) (aS : Option Addr) (cS : Nat) (s : List Int) (w : World) (hc : w.cell? ⟨gl, 0, none⟩ = some (.slice (some ⟨gb, 0, none⟩) z cap)) (hl : Laid1 5 gb z cap s w) (us : U8 s) (sS : Ss w aS cS [s]) (hz : z ≤ 1048576) :
    Calls Tryd.prog 15 #[.slice (some ⟨gl, 0, none⟩) 1 cl, .slice aS 1 cS] w (fun e w' => e = .returned (.bool true) ∧ Dr w w') := by
  have hcap : z + 70 ≤ cap := by obtain ⟨xs, _, _, h, _⟩ := hl; exact h
  have ezs : z = s.length := by obtain ⟨xs, _, h, _⟩ := hl; exact h
  obtain ⟨b, off, rfl, hcS⟩ := sS.at_ (by simp)
  have ck := hcS 0 (by simp)
  rw [Nat.add_zero] at ck
  replace ck : w.cell? ⟨b, off, none⟩ = some (str s) := ck
  have sw := hl.sl
  have MK : Hid (∀ q, q < 70 → w.cell? ⟨gb, z + q, none⟩ = some (.int .u8 1)) := Lib.hid fun q hq => hl.mark hq
  have hcv := fun m => run_str_of (P := Tryd.prog) (w.drewN m) 25 9 5 Tryd.underlying25 Tryd.underlying5 Tryd.underlying9 z ezs (sw.drewN m)
  have se := str_eq us us
  rw [decide_eq_true (rfl : s = s)] at se
  have hcut := fun W => run_to (P := Tryd.prog) W 25 5 Tryd.underlying25 size8P (some ⟨gb, 0, none⟩) z cap (z + 70) hcap ((z : Int) + 70) (by omega)
  have nn : ((1 : Int) != 1) = false := by decide
  clear ezs hcS sS sw hl
  go_enter Tryd.func15, Tryd.ntmps15
  go_wp2_with fail
  go_loopw [5] (fun t wr => ∃ i : Nat, i ≤ 1 ∧ t = .int .i64 (i : Int) ∧ Dr w wr) (fun t _ => 1 - (intOf t).toNat)
  case atStart => exact ⟨0, by omega, rfl, .refl _⟩
  case round =>
    obtain ⟨i, hi, rfl, nd, rfl⟩ := hrel
    by_cases hlt : i < 1
    · obtain rfl : i = 0 := by omega
      rw [show ((0 : Nat) : Int) = 0 from rfl]
      clear hi hlt
      go_wp2_with fail
      go_quiet (fail)
      go_wp2_with fail
      go_quiet (fail)
      go_wp2_with fail
      go_loopw [7] (fun t wr => ∃ q : Nat, q ≤ 70 ∧ t = .int .i64 ((z + q : Nat) : Int) ∧ Dr w wr) (fun t _ => z + 70 - (intOf t).toNat)
      case atStart => exact ⟨0, by omega, by rw [Nat.add_zero], (by repeat (first | exact Dr.refl _ | apply Dr.drewN))⟩
      case round =>
        obtain ⟨q, hq, rfl, nd2, rfl⟩ := hrel
        obtain ⟨j, hj⟩ : ∃ j, j = z + q := ⟨_, rfl⟩
        rw [← hj]
        have HJ := Lib.hid hj
        by_cases hq70 : q < 70
        · have ckm := MK.out q hq70
          rw [← hj] at ckm
          have hji : (j : Int) < (z : Int) + 70 := by omega
          have hjn : j < z + 70 := by omega
          have hd3 : decide ((j : Int) < (z : Int) + 70) = true := decide_eq_true hji
          have hd4 : decide (j < z + 70) = true := decide_eq_true hjn
          clear hj
          go_wp2_with fail
          go_roundw
          case rel => exact ⟨q + 1, by omega, by have := HJ.out; go_num, (by repeat (first | exact Dr.refl _ | apply Dr.drewN))⟩
          case measure => have := HJ.out; simp [intOf]; omega
        · have hji : ¬ (j : Int) < (z : Int) + 70 := by omega
          have hjn : ¬ j < z + 70 := by omega
          have hd3 : decide ((j : Int) < (z : Int) + 70) = false := decide_eq_false hji
          have hd4 : decide (j < z + 70) = false := decide_eq_false hjn
          clear hj
          go_wp2_with fail
          go_roundw
          case rel => exact ⟨1, by omega, rfl, (by repeat (first | exact Dr.refl _ | apply Dr.drewN))⟩
          case measure => simp [intOf]
    · obtain rfl : i = 1 := by omega
      rw [show ((1 : Nat) : Int) = 1 from rfl]
      go_wp2_with fail
      go_ret
      exact ⟨rfl, (by repeat (first | exact Dr.refl _ | apply Dr.drewN))⟩

def LaidPost (B gR z : Nat) (s : List Int) (w : World) (e : Ending) (w' : World) : Prop := ∃ gb cap, e = .returned (.slice (some ⟨gb, 0, none⟩) z cap) ∧ Laid1 5 gb z cap s w' ∧ B ≤ gb ∧ (∃ R, Blk w' gR .u8 5 R ∧ R.length = 200) ∧ Below B w w' ∧ KeepB w w'
set_option maxHeartbeats 16000000 in
set_option maxRecDepth 20000 in
theorem laid_c (B gR : Nat) (R s : List Int) (w : World) (hR : Blk w gR .u8 5 R) (lR : R.length = 200) (hBR : B ≤ gR) (hB : B ≤ w.heap.size) (us : U8 s) (hl : s.length ≤ 1048576) :
    Calls Tryd.prog 27 #[.slice (some ⟨gR, 0, none⟩) 0 200, str s] w (LaidPost B gR s.length s w) := by
  have z1 : (strOfNums s).size = s.length := strOfNums_size _
  obtain ⟨z, hz⟩ : ∃ z, z = s.length := ⟨_, rfl⟩
  have HZ := Lib.hid hz
  unfold LaidPost
  rw [← hz] at z1 ⊢
  have hzl : z ≤ 1048576 := by omega
  by_cases hroom : 200 < z + 70
  · have g1 : decide ((200 : Int) < (z : Int) + 70) = true := decide_eq_true (by omega)
    have g2 : (200 : Int) < (z : Int) + 70 := by omega
    have g3 : decide (200 < z + 70) = true := decide_eq_true hroom
    have al := (Below.refl w.heap.size w).alloc (Nat.le_refl _) (.cells #[str s] 9)
    have s1 : Ss (w.alloc (.cells #[str s] 9)) (some ⟨w.heap.size, 0, none⟩) 1 [s] := by
      refine ⟨fun x hx => (by simp only [List.mem_singleton] at hx; rw [hx]; exact us), by simp, by omega, fun _ => ⟨w.heap.size, 0, rfl, fun j hj => ?_⟩⟩
      obtain rfl : j = 0 := by simpa using hj
      rw [Nat.zero_add, cell_of_row (w.alloc (.cells #[str s] 9)) w.heap.size 0 _ _ (0, 0) (Go.heap_alloc_new w _)]
      rfl
    have c1 := lists_c _ 1 [s] _ s1 (fun x hx => (by simp only [List.mem_singleton] at hx; rw [hx]; omega)) (by simp)
    unfold ListsPost at c1
    simp only [List.length_singleton] at c1
    clear hz s1
    go_enter Tryd.func27, Tryd.ntmps27
    go_wp2_with fail
    refine c1.mono ?_; rintro e_ w2 ⟨v, G, rfl, hm, hb⟩
    obtain ⟨L, cL, rfl⟩ := hm.sl
    obtain ⟨gL, eg, _, cell⟩ := hm.place (i := 0) (by simp)
    subst eg
    have hk := (hm.blk 0 (by simp))
    rw [show ([s] : List (List Int)).getD 0 [] = s from rfl, ← HZ.out] at cell
    rw [show ([s] : List (List Int)).getD 0 [] = s from rfl] at hk
    have hB2 := al.trans (hb.mono al.size)
    simp only [List.length_singleton]
    clear c1 hm hb
    go_wp2_with fail
    go_ret
    have lk : (s ++ mks36 0).length = z + 70 := by rw [List.length_append, mks36_len, HZ.out]
    refine ⟨_, _, rfl, ⟨_, hk.2, HZ.out, Nat.le_refl _, by rw [lk]; exact Nat.le_refl _, by omega, List.take_of_length_le (by rw [lk]; exact Nat.le_refl _)⟩, Nat.le_trans hB (Nat.le_trans al.size hk.1), ⟨R, hR.below hB2 hR.lt, lR⟩, hB2.mono hB, KeepT.below hB2⟩
  · have g1 : decide ((200 : Int) < (z : Int) + 70) = false := decide_eq_false (by omega)
    have g2 : ¬ (200 : Int) < (z : Int) + 70 := by omega
    have g3 : decide (200 < z + 70) = false := decide_eq_false hroom
    have hcut := fun W => run_to (P := Tryd.prog) W 25 5 Tryd.underlying25 size8P (some ⟨gR, 0, none⟩) 0 200 0 (by omega) 0 rfl
    clear hz
    go_enter Tryd.func27, Tryd.ntmps27
    go_wp2_with (at_builtin; refine wpList_append_str_in rfl _ _ 25 9 rfl 5 Tryd.underlying25 Tryd.underlying9 info8S gR 200 R s rfl hR lR.symm rfl us (by rw [← HZ.out]; omega) ?_)
    intro w2 hk2 hg2 hs2
    have hB2 : Below B w w2 := (Below.refl B w).grown hg2 hB (by intro q hq; cases hq; exact hBR)
    have kb2 : KeepB w w2 := KeepT.grown hg2 (fun q hq _ => by cases hq; exact ⟨_, _, _, hR, .inl rfl⟩)
    rw [← HZ.out] at hk2 ⊢
    have lX : Hid ((s ++ R.drop z).length = 200) := Lib.hid (by rw [List.length_append, List.length_drop, lR, ← HZ.out]; omega)
    obtain ⟨X, hX⟩ : ∃ x, x = s ++ R.drop z := ⟨_, rfl⟩
    have HX := Lib.hid hX
    rw [← hX] at hk2 lX
    have HS2 := Lib.hid hs2
    have bs : B ≤ w2.heap.size := by rw [hs2]; exact hB
    clear hg2 hs2 hR hX
    go_wp2_with fail
    go_loopw [7, 8] (fun v t wr => ∃ (q : Nat) (Y : List Int), q ≤ 70 ∧ t = .int .i64 (q : Int) ∧ v = .slice (some ⟨gR, 0, none⟩) (z + q) 200 ∧ Blk wr gR .u8 5 Y ∧ Hid (Y.length = 200 ∧ Y.take (z + q) = s ++ List.replicate q 1) ∧ Below B w wr ∧ KeepB w wr ∧ B ≤ wr.heap.size) (fun _ t _ => 70 - (intOf t).toNat)
    case atStart => exact ⟨0, X, by omega, rfl, by rw [Nat.add_zero], hk2, Lib.hid ⟨lX.out, by rw [Nat.add_zero, HX.out, HZ.out, List.take_left]; simp⟩, hB2, kb2, bs⟩
    case round =>
      clear hk2 hB2 kb2 bs
      obtain ⟨q, Y, hq, rfl, rfl, hk, HY, hBr, kb, bs⟩ := hrel
      by_cases hlt : q < 70
      · have hd : decide ((q : Int) < 70) = true := decide_eq_true (by omega)
        have al := (Below.refl wr.heap.size wr).alloc (Nat.le_refl _) (.cells #[.int .u8 1] 5)
        have hk3 := hk.alloc (.cells #[.int .u8 1] 5)
        have hB3 := hBr.trans (al.mono bs)
        have kb3 := kb.trans (KeepT.below al)
        have as1 : (wr.alloc (.cells #[.int .u8 1] 5)).heap.size = wr.heap.size + 1 := by simp
        clear hk hBr kb
        go_wp2_with (at_builtin; refine wpList_append_in rfl _ _ 25 rfl 5 .u8 1 Tryd.underlying25 info8S gR (z + q) 200 Y rfl hk3 HY.out.1.symm (by rw [HY.out.1]; omega) _ 1 1 rfl (cells_one _ _ _ _ _ rfl) ?_)
        intro w5 hk5 hg5 hs5
        have hB5 := hB3.grown hg5 (by first | (rw [as1]; omega) | omega) (by intro p hp; cases hp; exact hBR)
        have kb5 : KeepB w w5 := kb3.trans (KeepT.grown hg5 (fun p hp _ => by cases hp; exact ⟨_, _, _, hk3, .inl rfl⟩))
        have bs5 : B ≤ w5.heap.size := by have h5 := hs5; first | (rw [h5, as1]; omega) | (rw [h5]; omega) | omega
        have HY5 : Hid ((Y.set (z + q) 1).length = 200 ∧ (Y.set (z + q) 1).take (z + (q + 1)) = s ++ List.replicate (q + 1) 1) := Lib.hid ⟨by rw [List.length_set]; exact HY.out.1, by
          rw [← Nat.add_assoc, List.take_set, List.take_add_one, HY.out.2, List.getElem?_eq_getElem (by rw [HY.out.1]; omega)]
          rw [List.set_append_right _ _ (by rw [List.length_append, List.length_replicate, HZ.out]; exact Nat.le_refl _)]
          rw [List.length_append, List.length_replicate, ← HZ.out, Nat.sub_self, List.replicate_succ', List.append_assoc]
          rfl⟩
        clear hk3 hB3 kb3 as1 hg5 hs5 al
        go_wp2_with fail
        go_roundw
        case rel => exact ⟨q + 1, _, by omega, by go_num, rfl, hk5, HY5, hB5, kb5, bs5⟩
        case measure => simp [intOf]; omega
      · obtain rfl : q = 70 := by omega
        rw [show ((70 : Nat) : Int) = 70 from rfl]
        have hd : decide ((70 : Int) < 70) = false := by decide
        go_wp2_with fail
        go_ret
        exact ⟨gR, 200, rfl, ⟨Y, hk, HZ.out, by omega, by rw [HY.out.1]; exact Nat.le_refl _, by omega, HY.out.2⟩, hBR, ⟨Y, hk, HY.out.1⟩, hBr, kb⟩
end Go.Proofs.YtmbifokiebjmmaaDoor
