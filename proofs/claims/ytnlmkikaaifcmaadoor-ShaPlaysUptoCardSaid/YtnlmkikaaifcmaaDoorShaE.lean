/- package sha: New, Copy by their contracts. -/
import Derived.Test.YtnlmkikaaifcmaaDoorShaD
set_option linter.unusedVariables false
set_option linter.unusedSimpArgs false
namespace Go.Sg
open Go.RowKit
/-- A value of more cells than one is laid into a new block. -/
theorem wpList_box_rw {P : Program} {w : World} {ops : Array Oper} {rest : List Oper} {o : Oper} {a : Act} {Q : Exit → Act → World → Prop} (hgd : o.guard = none) (T : TypeId) (x : Operand) (ho : o.op = .box T x)
    (vs : List Value) (hx : a.eval x = .agg vs.toArray)
    (h : ∀ w', Rw w' w.heap.size T vs → w'.heap.size = w.heap.size + 1 → Below w.heap.size w w' → wpList P ops Q rest (a.put o.dst (.pointer (some ⟨w.heap.size, 0, none⟩))) w') : wpList P ops Q (o :: rest) a w := by
  refine wpList_plain hgd fun K hK => ?_
  have hrun : (Instr.box T (.agg vs.toArray)).run P w = .ok (.pointer (some ⟨w.heap.size, 0, none⟩)) (w.alloc (.cells vs.toArray T)) := by
    simp [Instr.box, newVar, newRow, Value.cells]
  unfold Oper.wp
  simp [execOp, ho, hx, hrun, Result.andThen]
  exact hK _ _ (h _ (Rw.new _ _ _) (by simp) ((Below.refl _ _).alloc (Nat.le_refl _) _))
end Go.Sg
namespace Go.Proofs.YtnlmkikaaifcmaaDoor
open Go.RowKit Go.Sg


theorem size8w : (Tryd.prog.info? 41).map (·.size) = some 8 := by kernel_rfl
theorem size8l : (Tryd.prog.info? 43).map (·.size) = some 8 := by kernel_rfl
theorem v32_one (l : List (BitVec 32)) : ∀ v ∈ l.map v32, v.oneCell' = true := by intro v hv; obtain ⟨x, _, rfl⟩ := List.mem_map.1 hv; rfl
theorem v64_one (l : List (BitVec 64)) : ∀ v ∈ l.map v64, v.oneCell' = true := by intro v hv; obtain ⟨x, _, rfl⟩ := List.mem_map.1 hv; rfl
def zr : List Int := List.replicate 128 0
def z32 : List (BitVec 32) := List.replicate 8 0
def z64 : List (BitVec 64) := List.replicate 8 0
theorem stCells_s (h : Int) (S S' : List (BitVec 32)) (L : List (BitVec 64)) (r : List Int) (n : BitVec 64) (hS : S.length = 8) (hS' : S'.length = 8) :
    (stCells h S L r n).take 1 ++ (S'.map v32 ++ (stCells h S L r n).drop (1 + 8)) = stCells h S' L r n := by
  simp [stCells, List.drop_append, hS]
theorem stCells_l (h : Int) (S : List (BitVec 32)) (L L' : List (BitVec 64)) (r : List Int) (n : BitVec 64) (hS : S.length = 8) (hL : L.length = 8) :
    (stCells h S L r n).take 9 ++ (L'.map v64 ++ (stCells h S L r n).drop (9 + 8)) = stCells h S L' r n := by
  simp [stCells, List.take_append, List.drop_append, hS, hL, List.take_of_length_le, List.drop_of_length_le]
theorem zr_u8 : U8 zr := InR.zeros (by omega) _

theorem zeroSt : (Tryd.prog.info? STy).map (fun i => (i.zero, i.size)) = some (some (.agg (stCells 0 z32 z64 zr 0).toArray), 146) := by kernel_rfl
def zSt : Array Value := (stCells 0 z32 z64 zr 0).toArray
theorem zSt_zero (w : World) : (zeroValue STy).run Tryd.prog w = .ok (.agg zSt) w := (zero_of_info zeroSt).1 w
theorem zSt_size : zSt.size = 146 := by kernel_rfl
theorem zSt_ne : zSt ≠ #[] := by intro h; have := zSt_size; rw [h] at this; exact absurd this (by decide)

def NewPost (h : Int) (w : World) (e : Ending) (w' : World) : Prop := ∃ g, e = .returned (.pointer (some ⟨g, 0, none⟩)) ∧ w.heap.size ≤ g ∧ ShaSt w' g h [] ∧ Below w.heap.size w w'

set_option maxHeartbeats 1000000 in
set_option maxRecDepth 100000 in
theorem New_1 (w : World) (ht : ShaTabs w) : Calls Tryd.prog 4 #[.int .i64 1] w (NewPost 1 w) := by
  have htop := ht.top
  have hz0 := zSt_zero
  have hz1 := zSt_ne
  go_enter Tryd.func4, Tryd.ntmps4
  go_wp2_with (with_reducible refine wpList_box_rw rfl _ _ rfl (stCells 1 z32 z64 zr 0) (by kernel_rfl) ?_)
  intro w1 hk1 hs1 hb1
  have hr := (ht.below hb1).b256
  have hlt : w.heap.size < w1.heap.size := by omega
  go_wp2_with (first | (refine wpList_load_mid rfl 41 (.global 0) rfl 0 0 rfl (start256.list.map v32) _ hr Tryd.underlying41 rfl size8w ?_) | (refine wpList_store_rw rfl 41 (.tmp 13) (.tmp 11) rfl w.heap.size 1 STy _ (start256.list.map v32) rfl rfl hk1 size8w (v32_one _) (by decide) ?_))
  intro w2 hk2 hg2 hs2
  rw [show start256.list.length = 8 from rfl, stCells_s 1 z32 start256.list z64 zr 0#64 rfl rfl] at hk2
  have hb2 := hb1.grown hg2 (by omega) (by simp)
  clear hk1 hg2 hr
  go_wp2_with fail
  go_ret
  exact ⟨w.heap.size, rfl, Nat.le_refl _, ⟨⟨start256.list, z64, zr, ⟨hk2, rfl, rfl, List.length_replicate, zr_u8⟩, ⟨fun h => rfl, fun h => by omega, fun h => by omega, fun i hi => by simp at hi⟩⟩, .inl rfl, .nil (by omega), htop⟩, hb2⟩

set_option maxHeartbeats 1000000 in
set_option maxRecDepth 100000 in
theorem New_2 (w : World) (ht : ShaTabs w) : Calls Tryd.prog 4 #[.int .i64 2] w (NewPost 2 w) := by
  have htop := ht.top
  have hz0 := zSt_zero
  have hz1 := zSt_ne
  go_enter Tryd.func4, Tryd.ntmps4
  go_wp2_with (with_reducible refine wpList_box_rw rfl _ _ rfl (stCells 2 z32 z64 zr 0) (by kernel_rfl) ?_)
  intro w1 hk1 hs1 hb1
  have hr := (ht.below hb1).b384
  have hlt : w.heap.size < w1.heap.size := by omega
  go_wp2_with (first | (refine wpList_load_mid rfl 43 (.global 1) rfl 1 0 rfl (start384.list.map v64) _ hr Tryd.underlying43 rfl size8l ?_) | (refine wpList_store_rw rfl 43 (.tmp 19) (.tmp 17) rfl w.heap.size 9 STy _ (start384.list.map v64) rfl rfl hk1 size8l (v64_one _) (by decide) ?_))
  intro w2 hk2 hg2 hs2
  rw [show start384.list.length = 8 from rfl, stCells_l 2 z32 z64 start384.list zr 0#64 rfl rfl] at hk2
  have hb2 := hb1.grown hg2 (by omega) (by simp)
  clear hk1 hg2 hr
  go_wp2_with fail
  go_ret
  exact ⟨w.heap.size, rfl, Nat.le_refl _, ⟨⟨z32, start384.list, zr, ⟨hk2, rfl, rfl, List.length_replicate, zr_u8⟩, ⟨fun h => by omega, fun h => rfl, fun h => by omega, fun i hi => by simp at hi⟩⟩, .inr (.inl rfl), .nil (by omega), htop⟩, hb2⟩

set_option maxHeartbeats 1000000 in
set_option maxRecDepth 100000 in
theorem New_3 (w : World) (ht : ShaTabs w) : Calls Tryd.prog 4 #[.int .i64 3] w (NewPost 3 w) := by
  have htop := ht.top
  have hz0 := zSt_zero
  have hz1 := zSt_ne
  go_enter Tryd.func4, Tryd.ntmps4
  go_wp2_with (with_reducible refine wpList_box_rw rfl _ _ rfl (stCells 3 z32 z64 zr 0) (by kernel_rfl) ?_)
  intro w1 hk1 hs1 hb1
  have hr := (ht.below hb1).b512
  have hlt : w.heap.size < w1.heap.size := by omega
  go_wp2_with (first | (refine wpList_load_mid rfl 43 (.global 2) rfl 2 0 rfl (start512.list.map v64) _ hr Tryd.underlying43 rfl size8l ?_) | (refine wpList_store_rw rfl 43 (.tmp 25) (.tmp 23) rfl w.heap.size 9 STy _ (start512.list.map v64) rfl rfl hk1 size8l (v64_one _) (by decide) ?_))
  intro w2 hk2 hg2 hs2
  rw [show start512.list.length = 8 from rfl, stCells_l 3 z32 z64 start512.list zr 0#64 rfl rfl] at hk2
  have hb2 := hb1.grown hg2 (by omega) (by simp)
  clear hk1 hg2 hr
  go_wp2_with fail
  go_ret
  exact ⟨w.heap.size, rfl, Nat.le_refl _, ⟨⟨z32, start512.list, zr, ⟨hk2, rfl, rfl, List.length_replicate, zr_u8⟩, ⟨fun h => by omega, fun h => by omega, fun h => rfl, fun i hi => by simp at hi⟩⟩, .inr (.inr rfl), .nil (by omega), htop⟩, hb2⟩

theorem New_c (h : Int) (hh : IsHash h) (w : World) (ht : ShaTabs w) : Calls Tryd.prog 4 #[.int .i64 h] w (NewPost h w) := by
  rcases hh with rfl | rfl | rfl
  · exact New_1 w ht
  · exact New_2 w ht
  · exact New_3 w ht
set_option maxHeartbeats 1000000 in
set_option maxRecDepth 100000 in
theorem New_no (h : Int) (hh : ¬ IsHash h) (w : World) : Calls Tryd.prog 4 #[.int .i64 h] w fun e w' => e = .returned (.pointer none) ∧ Below w.heap.size w w' := by
  have g1 : (h == 1) = false := beq_false_of_ne fun e => hh (.inl e)
  have g2 : (h == 2) = false := beq_false_of_ne fun e => hh (.inr (.inl e))
  have g3 : (h == 3) = false := beq_false_of_ne fun e => hh (.inr (.inr e))
  have hz0 := zSt_zero
  have hz1 := zSt_ne
  go_enter Tryd.func4, Tryd.ntmps4
  go_wp2_with (with_reducible refine wpList_box_rw rfl _ _ rfl (stCells h z32 z64 zr 0) (by kernel_rfl) ?_)
  intro w1 hk1 hs1 hb1
  go_wp2_with fail
  go_ret
  exact ⟨rfl, hb1⟩

/-! ### Copy -/
theorem sizeSt : (Tryd.prog.info? STy).map (·.size) = some 146 := by kernel_rfl
theorem stCells_one (h : Int) (S : List (BitVec 32)) (L : List (BitVec 64)) (r : List Int) (n : BitVec 64) : ∀ v ∈ stCells h S L r n, v.oneCell' = true := by
  intro v hv
  simp only [stCells, List.mem_cons, List.mem_append, List.mem_map, List.not_mem_nil, or_false] at hv
  rcases hv with rfl | ⟨x, _, rfl⟩ | ⟨x, _, rfl⟩ | ⟨x, _, rfl⟩ | rfl <;> rfl
set_option maxHeartbeats 1000000 in
set_option maxRecDepth 100000 in
theorem Copy_c (g : Nat) (h : Int) (T : List Int) (w : World) (hs : ShaSt w g h T) : Calls Tryd.prog 13 #[.pointer (some ⟨g, 0, none⟩)] w (fun e w' => ∃ g', e = .returned (.pointer (some ⟨g', 0, none⟩)) ∧ w.heap.size ≤ g' ∧ ShaSt w' g' h T ∧ Below w.heap.size w w') := by
  obtain ⟨S, L, r, st, md⟩ := hs.ex
  obtain ⟨N, hN⟩ : ∃ N, N = BitVec.ofNat 64 T.length := ⟨_, rfl⟩
  have HN := Lib.hid hN
  rw [← hN] at st
  have hl := st.len
  have hfar := hs.far
  have hlt := st.lt
  clear hN
  go_enter Tryd.func13, Tryd.ntmps13
  go_wp2_with (first | (refine wpList_load_rw rfl STy (.tmp 5) rfl g rfl STy (stCells h S L r N) _ st.rw Tryd.underlying46 rfl (by rw [hl]; exact sizeSt) ?_) | (refine wpList_alloc_rw rfl STy rfl (stCells 0 z32 z64 zr 0) 146 zeroSt ?_))
  intro w1 hk1 hs1 hb1
  go_wp2_with (refine wpList_store_rw rfl STy (.tmp 3) (.tmp 6) rfl w.heap.size 0 STy _ (stCells h S L r N) rfl rfl hk1 (by rw [hl]; exact sizeSt) (stCells_one _ _ _ _ _) (by rw [hl]; decide) ?_)
  intro w2 hk2 hg2 hs2
  have hk3 : Rw w2 w.heap.size STy (stCells h S L r N) := by
    have e : (stCells 0 z32 z64 zr 0#64).drop 146 = [] := List.drop_of_length_le (by decide)
    simpa [hl, e] using hk2
  have hb2 := hb1.grown hg2 (by omega) (by simp)
  clear hk1 hg2 hk2
  go_wp2_with fail
  go_ret
  exact ⟨w.heap.size, rfl, Nat.le_refl _, ⟨⟨S, L, r, ⟨by rw [← HN.out]; exact hk3, st.s8, st.l8, st.r128, st.u8⟩, md⟩, hs.ok, hs.u8, by omega⟩, hb2⟩
end Go.Proofs.YtnlmkikaaifcmaaDoor
