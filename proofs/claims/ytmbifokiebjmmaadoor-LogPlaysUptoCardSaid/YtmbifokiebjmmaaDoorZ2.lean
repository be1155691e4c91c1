import Derived.Test.YtmbifokiebjmmaaDoorZ1
import Derived.Laws.CopyOwn
/- The law of copy into a row of the call's own. -/
set_option linter.unusedVariables false
set_option linter.unusedSimpArgs false
namespace Go.Sg
open Go.RowKit

/-! ### copy -/
theorem wpList_copy_blk {P : Program} {w : World} {ops : Array Oper} {rest : List Oper} {o : Oper} {a : Act} {Q : Exit → Act → World → Prop} (hgd : o.guard = none) (d s : Operand) (dT sT : TypeId)
    (ho : o.op = .call { callee := .builtin .copy, args := #[d, s], argTypes := #[dT, sT] }) (E : TypeId) (hu : P.underlying dT = some (.slice E)) (hsz : (P.info? E).map (·.size) = some 1)
    (da : Option Addr) (g off dn dc : Nat) (ad : Option Addr) (sn sc : Nat) (hd : a.eval d = .slice da dn dc) (hs : a.eval s = .slice ad sn sc) (k : IntKind) (L ys : List Int) (hB : Blk w g k E L) (hy : Cells k w ad ys) (hyn : ys.length = sn)
    (hda : 0 < dn → 0 < sn → da = some ⟨g, off, none⟩) (hfit : off + min sn dn ≤ L.length)
    (h : ∀ w', Blk w' g k E (L.take off ++ (ys.take dn ++ L.drop (off + min sn dn))) → w.grownBy w' (some g) → w'.heap.size = w.heap.size → wpList P ops Q rest (a.put o.dst (.int .i64 ((min sn dn : Nat) : Int))) w') : wpList P ops Q (o :: rest) a w := by
  refine wpList_plain hgd fun K hK => ?_
  by_cases h0 : min sn dn = 0
  · have hrun := run_copy_none (P := P) w dT sT o.type E da ad dn dc sn sc hu hsz h0
    unfold Oper.wp
    simp [execOp, ho, resolve, invoke, builtin, hd, hs, hrun, Result.andThen]
    refine hK _ _ ?_
    have e : L.take off ++ (ys.take dn ++ L.drop (off + min sn dn)) = L := by
      have : ys.take dn = [] := by apply List.eq_nil_of_length_eq_zero; rw [List.length_take, hyn]; omega
      rw [this, h0]; simp
    have := h w (by rw [e]; exact hB) ⟨rfl, rfl, rfl, Nat.le_refl _, fun _ _ _ => rfl⟩ rfl
    rw [h0] at this
    exact this
  · obtain rfl := hda (by omega) (by omega)
    obtain ⟨b, oy, rfl, hc⟩ := hy (by omega)
    have hrun := run_copy_row (P := P) w dT sT o.type E g off dn dc ⟨b, oy, none⟩ sn sc (L.map (Value.int k)).toArray E ((ys.take dn).map (Value.int k)) hu hsz hB
      (by simp [hyn, Nat.min_comm]) (by
        intro j v hv
        have hadd : (⟨b, oy, none⟩ : Addr).add j = ⟨b, oy + j, none⟩ := by unfold Addr.add; split <;> simp_all
        rw [List.getElem?_map, Option.map_eq_some_iff] at hv
        obtain ⟨y, hy1, rfl⟩ := hv
        rw [List.getElem?_take] at hy1
        split at hy1
        · obtain ⟨hj, hje⟩ := List.getElem?_eq_some_iff.1 hy1
          rw [hadd, hc j hj, nth_get _ _ hj, hje]
        · cases hy1) (by simp [hyn, Nat.min_comm]; simpa [Nat.min_comm] using hfit) (by
        intro v hv
        obtain ⟨y, _, rfl⟩ := List.mem_map.1 hv
        rfl)
    unfold Oper.wp
    simp only [execOp, ho, resolve, invoke, builtin, Sem.run_bind, Sem.run_pure, Result.andThen_ok, List.map_toArray, List.map_cons, List.map_nil, hd, hs, hrun]
    have hl : ((ys.take dn).map (Value.int k)).length = min sn dn := by simp [hyn, Nat.min_comm]
    rw [hl]
    refine hK _ _ (h _ ?_ ⟨rfl, rfl, rfl, by simp, fun j _ hk => setRow_other w g j _ (fun ee => hk (by simp [ee]))⟩ (by simp))
    have := setRow_heap w g (L.map (Value.int k)).toArray ((((L.map (Value.int k)).toArray.toList.take off) ++ ((ys.take dn).map (Value.int k) ++ (L.map (Value.int k)).toArray.toList.drop (off + min sn dn))).toArray) E (0, 0) hB
    rw [Blk]
    simpa [List.map_append, List.map_take, List.map_drop] using this

theorem Sl.grown' {k : IntKind} {w w' : World} {a : Option Addr} {cap : Nat} {xs : List Int} {row : Option Nat} (h : Sl k w a cap xs) (hg : w.grownBy w' row) (hne : ∀ b off, a = some ⟨b, off, none⟩ → 0 < xs.length → some b ≠ row) : Sl k w' a cap xs := by
  refine ⟨h.le, h.max, fun hp => ?_⟩
  obtain ⟨b, off, rfl, hc⟩ := h.cells hp
  refine ⟨b, off, rfl, fun j hj => ?_⟩
  rw [World.cell?_of_block (w := w) (hg.block b (World.block_lt_of_cell? w _ (hc j hj)) (hne b off rfl hp))]
  exact hc j hj
/-- What came in lies below what is made now. -/
theorem Sl.apart {k : IntKind} {w : World} {a : Option Addr} {cap : Nat} {xs : List Int} (h : Sl k w a cap xs) {g : Nat} (hg : w.heap.size ≤ g) : ∀ b off, a = some ⟨b, off, none⟩ → 0 < xs.length → b ≠ g := by
  rintro b off rfl hp e
  have := h.cells.lt hp
  omega
theorem Sl.apart' {k : IntKind} {w : World} {a : Option Addr} {cap : Nat} {xs : List Int} (h : Sl k w a cap xs) {g : Nat} (hg : w.heap.size ≤ g) : ∀ b off, a = some ⟨b, off, none⟩ → 0 < xs.length → some b ≠ some g := by
  intro b off ha hp e
  exact h.apart hg b off ha hp (Option.some.inj e)
end Go.Sg
/- Rows of the call's own whose places are slices: how they read, and append. -/
set_option linter.unusedVariables false
set_option linter.unusedSimpArgs false
namespace Go.Sg
open Go.RowKit

/-- A slice of slices in the call's own memory: nil, or at the head of a row from block B on. -/
def NewV (B : Nat) (E : TypeId) (w : World) (v : Value) (vs : List Value) : Prop :=
  (v = .slice none 0 0 ∧ vs = []) ∨
  ∃ g cap cs, v = .slice (some ⟨g, 0, none⟩) vs.length cap ∧ B ≤ g ∧ w.heap[g]? = some (.cells cs E (0, 0)) ∧ vs.length ≤ cap ∧ cap ≤ cs.size ∧ cap ≤ 9223372036854775807 ∧ cs.toList.take vs.length = vs
section
variable {B : Nat} {E : TypeId} {w : World} {v : Value} {vs : List Value}
theorem NewV.nil (B : Nat) (E : TypeId) (w : World) : NewV B E w (.slice none 0 0) [] := .inl ⟨rfl, rfl⟩
theorem NewV.mono {B' : Nat} (h : NewV B E w v vs) (hB : B' ≤ B) : NewV B' E w v vs := by
  rcases h with h | ⟨g, cap, cs, hv, hg, r⟩
  · exact .inl h
  · exact .inr ⟨g, cap, cs, hv, by omega, r⟩
theorem NewV.sl (h : NewV B E w v vs) : ∃ a cap, v = .slice a vs.length cap := by
  rcases h with ⟨rfl, rfl⟩ | ⟨g, cap, cs, hv, _⟩
  · exact ⟨none, 0, rfl⟩
  · exact ⟨_, cap, hv⟩
theorem NewV.max (h : NewV B E w v vs) : vs.length ≤ 9223372036854775807 := by
  rcases h with ⟨rfl, rfl⟩ | ⟨g, cap, cs, hv, _, _, h1, _, h2, _⟩
  · simp
  · omega
theorem NewV.cell {a : Option Addr} {n cap : Nat} (h : NewV B E w (.slice a n cap) vs) (j : Nat) (hj : j < vs.length) : ∃ g, a = some ⟨g, 0, none⟩ ∧ B ≤ g ∧ w.cell? ⟨g, j, none⟩ = some vs[j] := by
  rcases h with ⟨_, rfl⟩ | ⟨g, cp, cs, hv, hg, hh, h1, h2, h3, h4⟩
  · simp at hj
  · simp only [Value.slice.injEq] at hv
    refine ⟨g, hv.1, hg, ?_⟩
    rw [cell_of_row w g j cs E (0, 0) hh]
    have e : cs.toList[j]? = (cs.toList.take vs.length)[j]? := by rw [List.getElem?_take, if_pos hj]
    rw [← Array.getElem?_toList, e, h4]
    simp [hj]
theorem NewV.kept {w' : World} {row : Option Nat} (h : NewV B E w v vs) (hg : w.grownBy w' row) (hne : v.ownBlock = none ∨ v.ownBlock ≠ row) : NewV B E w' v vs := by
  rcases h with h | ⟨g, cap, cs, rfl, hb, hh, r⟩
  · exact .inl h
  · refine .inr ⟨g, cap, cs, rfl, hb, ?_, r⟩
    rw [hg.block g (Array.getElem?_eq_some_iff.1 hh).1 (by simpa [Value.ownBlock] using hne)]
    exact hh
theorem NewV.below {w' : World} {B' : Nat} (h : NewV B E w v vs) (hb : Below B' w w') (hlt : ∀ g, v.ownBlock = some g → g < B') : NewV B E w' v vs := by
  rcases h with h | ⟨g, cap, cs, rfl, hbg, hh, r⟩
  · exact .inl h
  · exact .inr ⟨g, cap, cs, rfl, hbg, (hb.block g (hlt g rfl)).trans hh, r⟩
theorem NewV.lt (h : NewV B E w v vs) : ∀ g, v.ownBlock = some g → B ≤ g ∧ g < w.heap.size := by
  intro g hg
  rcases h with ⟨rfl, _⟩ | ⟨g', cap, cs, rfl, hbg, hh, _⟩
  · simp [Value.ownBlock] at hg
  · simp [Value.ownBlock] at hg
    subst hg
    exact ⟨hbg, (Array.getElem?_eq_some_iff.1 hh).1⟩
theorem NewV.keep {w' : World} (h : NewV B E w v vs) (hb : Below w.heap.size w w') : NewV B E w' v vs := h.below hb fun g hg => (h.lt g hg).2
theorem NewV.alloc (h : NewV B E w v vs) (o : Obj) : NewV B E (w.alloc o) v vs := h.kept (World.grownBy_alloc w o none) (by cases hv : v.ownBlock <;> simp)
end
theorem one_slice {v : Value} (h : ∃ a n c, v = .slice a n c) : v.oneCell' = true := by obtain ⟨a, n, c, rfl⟩ := h; rfl

theorem run_append_newV {P : Program} (w : World) (B : Nat) (t ty e : TypeId) (bytes : Nat) (ht : P.underlying t = some (.slice e)) (hi : (P.info? e).map (fun i => (i.zero, i.size, i.bytes)) = some (some (.slice none 0 0), 1, bytes))
    (v : Value) (vs : List Value) (hv : NewV B e w v vs) (a : Addr) (c : Nat) (u : Value) (hone : ∃ a n c, u = .slice a n c) (hu : w.cell? a = some u) (hm : vs.length + 1 ≤ 9223372036854775807) (hbytes : (vs.length + 1) * bytes ≤ 140737488355328) (hB : B ≤ w.heap.size) :
    ∃ v' w', (Builtin.append_ #[t, t] ty #[v, .slice (some a) 1 c]).run P w = .ok v' w' ∧ NewV B e w' v' (vs ++ [u]) ∧ w.grownBy w' v.ownBlock ∧ (v'.ownBlock = v.ownBlock ∨ ∃ g, v'.ownBlock = some g ∧ w.heap.size ≤ g) := by
  obtain ⟨i, hi0, hz, hs, hby⟩ : ∃ i, P.info? e = some i ∧ i.zero = some (.slice none 0 0) ∧ i.size = 1 ∧ i.bytes = bytes := info_parts hi
  have hnews : ∀ (j : Nat) (x : Value), [u][j]? = some x → w.cell? (a.add j) = some x := by
    intro j x hx
    have hj : j = 0 := by
      have := (List.getElem?_eq_some_iff.1 hx).1
      simp at this; exact this
    subst hj
    have e0 : a.add 0 = a := by
      obtain ⟨b, off, sp⟩ := a
      cases sp <;> simp [Addr.add]
    rw [e0, hu]
    simpa using hx
  have h1 : ∀ x ∈ [u], x.oneCell' = true := by
    intro x hx
    rw [List.mem_singleton] at hx
    rw [hx]; exact one_slice hone
  have grown : ∀ (old : Nat), old < vs.length + 1 → ∀ (row : Option Nat),
      NewV B e (w.drew.alloc (.cells (vs.toArray ++ [u].toArray ++ Builtin.zeroCells (Value.cells (.slice none 0 0)) (grownCap w (vs.length + 1) old e - (vs.length + 1))) e))
        (.slice (some ⟨w.heap.size, 0, none⟩) (vs.length + 1) (grownCap w (vs.length + 1) old e)) (vs ++ [u]) ∧
      w.grownBy (w.drew.alloc (.cells (vs.toArray ++ [u].toArray ++ Builtin.zeroCells (Value.cells (.slice none 0 0)) (grownCap w (vs.length + 1) old e - (vs.length + 1))) e)) row := by
    intro old ho row
    have hge := grownCap_ge w (vs.length + 1) old e
    have hcm : grownCap w (vs.length + 1) old e ≤ maxLen := grownCap_le_maxLen w (vs.length + 1) old e (by unfold maxLen; omega)
    unfold maxLen at hcm
    refine ⟨.inr ⟨w.heap.size, grownCap w (vs.length + 1) old e, _, by simp, hB, Go.heap_alloc_new w.drew _, by simp; omega, ?_, by omega, ?_⟩, ⟨rfl, rfl, rfl, by simp, fun j hj _ => Below.heap_alloc w.drew _ j hj⟩⟩
    · simp only [Array.size_append, List.size_toArray, size_zeroCells]
      rw [show (Value.cells (.slice none 0 0)).size = 1 from rfl]
      simp
      omega
    · simp only [Array.toList_append, List.append_assoc, List.length_append]
      rw [← List.append_assoc]
      apply List.take_left'
      simp
  rcases hv with ⟨rfl, rfl⟩ | ⟨g, cap, cs, rfl, hbg, hh, hnc, hcs, hcm, htake⟩
  · have hr := run_append_nil (P := P) w t ty e i (.slice none 0 0) ht hi0 hz a 1 c [u] (by simp [hs]) hnews (by omega) (by simp at hm; omega) (by rw [hby]; simp at hbytes; omega)
    have hgr := grown 0 (by simp) (Value.ownBlock (.slice none 0 0))
    simp only [List.length_nil, Nat.zero_add, Array.empty_append, List.nil_append] at hgr ⊢
    exact ⟨_, _, hr, hgr.1, hgr.2, .inr ⟨_, rfl, Nat.le_refl _⟩⟩
  · by_cases hroom : vs.length + 1 ≤ cap
    · have hr := run_append_room (P := P) w t ty e i ht hi0 g vs.length cap cs hh a 1 c [u] (by simp [hs]) hnews h1 hroom (by simp [hs]; omega)
      refine ⟨_, _, hr, .inr ⟨g, cap, _, by simp, hbg, setRow_heap w g cs _ e _ hh, by simpa using hroom, ?_, hcm, ?_⟩, ⟨rfl, rfl, rfl, by simp, fun j _ hk => setRow_other w g j _ (fun ee => hk (by simp [Value.ownBlock, ee]))⟩, .inl rfl⟩
      · simp [hs]; omega
      · simp only [hs, Nat.mul_one, List.length_append]
        rw [htake]
        apply List.take_left'
        simp
    · have holds : ∀ (j : Nat) (x : Value), vs[j]? = some x → w.cell? ((⟨g, 0, none⟩ : Addr).add j) = some x := by
        intro j x hx
        have hadd : (⟨g, 0, none⟩ : Addr).add j = ⟨g, j, none⟩ := by unfold Addr.add; split <;> simp_all
        rw [hadd, cell_of_row w g j cs e (0, 0) hh]
        rw [← htake, List.getElem?_take] at hx
        split at hx
        · simpa using hx
        · cases hx
      have hr := run_append_grow (P := P) w t ty e i (.slice none 0 0) ht hi0 hz ⟨g, 0, none⟩ vs.length cap vs (by simp [hs]) holds a 1 c [u] (by simp [hs]) hnews (by omega) (by omega) (growslice_fits (by omega) (by rw [hby]; exact hbytes))
      have hgr := grown cap (by omega) (Value.ownBlock (.slice (some ⟨g, 0, none⟩) vs.length cap))
      exact ⟨_, _, hr, hgr.1, hgr.2, .inr ⟨_, rfl, Nat.le_refl _⟩⟩

theorem wpList_append_newV {P : Program} (w : World) {ops : Array Oper} {rest : List Oper} {o : Oper} {a : Act} {Q : Exit → Act → World → Prop} (hgd : o.guard = none) (s x : Operand) (t : TypeId)
    (ho : o.op = .call { callee := .builtin .append, args := #[s, x], argTypes := #[t, t] }) (B : Nat) (e : TypeId) (bytes : Nat) (ht : P.underlying t = some (.slice e))
    (hi : (P.info? e).map (fun i => (i.zero, i.size, i.bytes)) = some (some (.slice none 0 0), 1, bytes)) (v : Value) (vs : List Value) (hs : a.eval s = v) (hv : NewV B e w v vs)
    (ad : Addr) (c : Nat) (u : Value) (hone : ∃ a n c, u = .slice a n c) (hx : a.eval x = .slice (some ad) 1 c) (hu : w.cell? ad = some u) (hm : vs.length + 1 ≤ 9223372036854775807) (hbytes : (vs.length + 1) * bytes ≤ 140737488355328) (hB : B ≤ w.heap.size)
    (h : ∀ v' w', NewV B e w' v' (vs ++ [u]) → w.grownBy w' v.ownBlock → (v'.ownBlock = v.ownBlock ∨ ∃ g, v'.ownBlock = some g ∧ w.heap.size ≤ g) → wpList P ops Q rest (a.put o.dst v') w') : wpList P ops Q (o :: rest) a w := by
  refine wpList_plain hgd fun K hK => ?_
  obtain ⟨v', w', hr, h2, h3, h4⟩ := run_append_newV (P := P) w B t o.type e bytes ht hi v vs hv ad c u hone hu hm hbytes hB
  unfold Oper.wp execOp
  simp only [ho, resolve, invoke, builtin, Sem.run_bind, Sem.run_pure, Result.andThen_ok, List.map_toArray, List.map_cons, List.map_nil, hs, hx, hr]
  exact hK _ _ (h v' w' h2 h3 h4)
theorem cell_new1 (w : World) (E : TypeId) (u : Value) (z : Nat × Nat) : (w.alloc (.cells #[u] E z)).cell? ⟨w.heap.size, 0, none⟩ = some u := by
  have h : (w.alloc (.cells #[u] E z)).heap[w.heap.size]? = some (.cells #[u] E z) := by
    show (w.heap.push _)[w.heap.size]? = _
    simp
  rw [cell_of_row (w.alloc (.cells #[u] E z)) w.heap.size 0 _ E z h]; rfl
end Go.Sg
/- Rows of the call's own whose places are values of one cell: append. (Printed by gen_rowsx.py.) -/
set_option linter.unusedVariables false
set_option linter.unusedSimpArgs false
namespace Go.Sg
open Go.RowKit

theorem run_append_newX {P : Program} (w : World) (B : Nat) (t ty e : TypeId) (bytes : Nat) (z : Value) (hz1 : z.cells.size = 1) (ht : P.underlying t = some (.slice e)) (hi : (P.info? e).map (fun i => (i.zero, i.size, i.bytes)) = some (some z, 1, bytes))
    (v : Value) (vs : List Value) (hv : NewV B e w v vs) (a : Addr) (c : Nat) (u : Value) (hone : u.oneCell' = true) (hu : w.cell? a = some u) (hm : vs.length + 1 ≤ 9223372036854775807) (hbytes : (vs.length + 1) * bytes ≤ 140737488355328) (hB : B ≤ w.heap.size) :
    ∃ v' w', (Builtin.append_ #[t, t] ty #[v, .slice (some a) 1 c]).run P w = .ok v' w' ∧ NewV B e w' v' (vs ++ [u]) ∧ w.grownBy w' v.ownBlock ∧ (v'.ownBlock = v.ownBlock ∨ ∃ g, v'.ownBlock = some g ∧ w.heap.size ≤ g) := by
  obtain ⟨i, hi0, hz, hs, hby⟩ : ∃ i, P.info? e = some i ∧ i.zero = some z ∧ i.size = 1 ∧ i.bytes = bytes := info_parts hi
  have hnews : ∀ (j : Nat) (x : Value), [u][j]? = some x → w.cell? (a.add j) = some x := by
    intro j x hx
    have hj : j = 0 := by
      have := (List.getElem?_eq_some_iff.1 hx).1
      simp at this; exact this
    subst hj
    have e0 : a.add 0 = a := by
      obtain ⟨b, off, sp⟩ := a
      cases sp <;> simp [Addr.add]
    rw [e0, hu]
    simpa using hx
  have h1 : ∀ x ∈ [u], x.oneCell' = true := by
    intro x hx
    rw [List.mem_singleton] at hx
    rw [hx]; exact hone
  have grown : ∀ (old : Nat), old < vs.length + 1 → ∀ (row : Option Nat),
      NewV B e (w.drew.alloc (.cells (vs.toArray ++ [u].toArray ++ Builtin.zeroCells (Value.cells z) (grownCap w (vs.length + 1) old e - (vs.length + 1))) e))
        (.slice (some ⟨w.heap.size, 0, none⟩) (vs.length + 1) (grownCap w (vs.length + 1) old e)) (vs ++ [u]) ∧
      w.grownBy (w.drew.alloc (.cells (vs.toArray ++ [u].toArray ++ Builtin.zeroCells (Value.cells z) (grownCap w (vs.length + 1) old e - (vs.length + 1))) e)) row := by
    intro old ho row
    have hge := grownCap_ge w (vs.length + 1) old e
    have hcm : grownCap w (vs.length + 1) old e ≤ maxLen := grownCap_le_maxLen w (vs.length + 1) old e (by unfold maxLen; omega)
    unfold maxLen at hcm
    refine ⟨.inr ⟨w.heap.size, grownCap w (vs.length + 1) old e, _, by simp, hB, Go.heap_alloc_new w.drew _, by simp; omega, ?_, by omega, ?_⟩, ⟨rfl, rfl, rfl, by simp, fun j hj _ => Below.heap_alloc w.drew _ j hj⟩⟩
    · simp only [Array.size_append, List.size_toArray, size_zeroCells]
      rw [hz1]
      simp
      omega
    · simp only [Array.toList_append, List.append_assoc, List.length_append]
      rw [← List.append_assoc]
      apply List.take_left'
      simp
  rcases hv with ⟨rfl, rfl⟩ | ⟨g, cap, cs, rfl, hbg, hh, hnc, hcs, hcm, htake⟩
  · have hr := run_append_nil (P := P) w t ty e i z ht hi0 hz a 1 c [u] (by simp [hs]) hnews (by omega) (by simp at hm; omega) (by rw [hby]; simp at hbytes; omega)
    have hgr := grown 0 (by simp) (Value.ownBlock (.slice none 0 0))
    simp only [List.length_nil, Nat.zero_add, Array.empty_append, List.nil_append] at hgr ⊢
    exact ⟨_, _, hr, hgr.1, hgr.2, .inr ⟨_, rfl, Nat.le_refl _⟩⟩
  · by_cases hroom : vs.length + 1 ≤ cap
    · have hr := run_append_room (P := P) w t ty e i ht hi0 g vs.length cap cs hh a 1 c [u] (by simp [hs]) hnews h1 hroom (by simp [hs]; omega)
      refine ⟨_, _, hr, .inr ⟨g, cap, _, by simp, hbg, setRow_heap w g cs _ e _ hh, by simpa using hroom, ?_, hcm, ?_⟩, ⟨rfl, rfl, rfl, by simp, fun j _ hk => setRow_other w g j _ (fun ee => hk (by simp [Value.ownBlock, ee]))⟩, .inl rfl⟩
      · simp [hs]; omega
      · simp only [hs, Nat.mul_one, List.length_append]
        rw [htake]
        apply List.take_left'
        simp
    · have holds : ∀ (j : Nat) (x : Value), vs[j]? = some x → w.cell? ((⟨g, 0, none⟩ : Addr).add j) = some x := by
        intro j x hx
        have hadd : (⟨g, 0, none⟩ : Addr).add j = ⟨g, j, none⟩ := by unfold Addr.add; split <;> simp_all
        rw [hadd, cell_of_row w g j cs e (0, 0) hh]
        rw [← htake, List.getElem?_take] at hx
        split at hx
        · simpa using hx
        · cases hx
      have hr := run_append_grow (P := P) w t ty e i z ht hi0 hz ⟨g, 0, none⟩ vs.length cap vs (by simp [hs]) holds a 1 c [u] (by simp [hs]) hnews (by omega) (by omega) (growslice_fits (by omega) (by rw [hby]; exact hbytes))
      have hgr := grown cap (by omega) (Value.ownBlock (.slice (some ⟨g, 0, none⟩) vs.length cap))
      exact ⟨_, _, hr, hgr.1, hgr.2, .inr ⟨_, rfl, Nat.le_refl _⟩⟩

theorem wpList_append_newX {P : Program} (w : World) {ops : Array Oper} {rest : List Oper} {o : Oper} {a : Act} {Q : Exit → Act → World → Prop} (hgd : o.guard = none) (s x : Operand) (t : TypeId)
    (ho : o.op = .call { callee := .builtin .append, args := #[s, x], argTypes := #[t, t] }) (B : Nat) (e : TypeId) (bytes : Nat) (z : Value) (hz1 : z.cells.size = 1) (ht : P.underlying t = some (.slice e))
    (hi : (P.info? e).map (fun i => (i.zero, i.size, i.bytes)) = some (some z, 1, bytes)) (v : Value) (vs : List Value) (hs : a.eval s = v) (hv : NewV B e w v vs)
    (ad : Addr) (c : Nat) (u : Value) (hone : u.oneCell' = true) (hx : a.eval x = .slice (some ad) 1 c) (hu : w.cell? ad = some u) (hm : vs.length + 1 ≤ 9223372036854775807) (hbytes : (vs.length + 1) * bytes ≤ 140737488355328) (hB : B ≤ w.heap.size)
    (h : ∀ v' w', NewV B e w' v' (vs ++ [u]) → w.grownBy w' v.ownBlock → (v'.ownBlock = v.ownBlock ∨ ∃ g, v'.ownBlock = some g ∧ w.heap.size ≤ g) → wpList P ops Q rest (a.put o.dst v') w') : wpList P ops Q (o :: rest) a w := by
  refine wpList_plain hgd fun K hK => ?_
  obtain ⟨v', w', hr, h2, h3, h4⟩ := run_append_newX (P := P) w B t o.type e bytes z hz1 ht hi v vs hv ad c u hone hu hm hbytes hB
  unfold Oper.wp execOp
  simp only [ho, resolve, invoke, builtin, Sem.run_bind, Sem.run_pure, Result.andThen_ok, List.map_toArray, List.map_cons, List.map_nil, hs, hx, hr]
  exact hK _ _ (h v' w' h2 h3 h4)
end Go.Sg
/- s[j:] and s[i:j] of a slice, by their run. -/
set_option linter.unusedVariables false
set_option linter.unusedSimpArgs false
namespace Go.Sg
open Go.RowKit
theorem run_from {P : Program} (w : World) (T E : TypeId) (hu : P.underlying T = some (.slice E)) (hs : (P.info? E).map (·.size) = some 1) (a : Option Addr) (n cap l : Nat) (h1 : l ≤ n) (h2 : n ≤ cap) (L : Int) (hL : L = l) :
    (Instr.sliceAt T (.slice a n cap) (some (.int .i64 L)) none none).run P w = .ok (.slice (if cap - l = 0 then a else a.map (·.add l)) (n - l) (cap - l)) w := by
  subst hL
  cases hq : P.info? E with
  | none => simp [hq] at hs
  | some i =>
    have hz : i.size = 1 := by simpa [hq] using hs
    simp [Instr.sliceAt, Instr.slice, run_underlying hu, Instr.sliceBounds, run_sliceBound, sizeOf, typeInfo, hq, hz, h1, h2]
    have e : cap = l ↔ cap - l = 0 := by omega
    simp only [e]
theorem run_mid {P : Program} (w : World) (T E : TypeId) (hu : P.underlying T = some (.slice E)) (hs : (P.info? E).map (·.size) = some 1) (a : Option Addr) (n cap l h : Nat) (h1 : l ≤ h) (h2 : h ≤ cap) (L H : Int) (hL : L = l) (hH : H = h) :
    (Instr.sliceAt T (.slice a n cap) (some (.int .i64 L)) (some (.int .i64 H)) none).run P w = .ok (.slice (if cap - l = 0 then a else a.map (·.add l)) (h - l) (cap - l)) w := by
  subst hL hH
  cases hq : P.info? E with
  | none => simp [hq] at hs
  | some i =>
    have hz : i.size = 1 := by simpa [hq] using hs
    simp [Instr.sliceAt, Instr.slice, run_underlying hu, Instr.sliceBounds, run_sliceBound, sizeOf, typeInfo, hq, hz, h1, h2]
    have e : cap = l ↔ cap - l = 0 := by omega
    simp only [e]
theorem run_to {P : Program} (w : World) (T E : TypeId) (hu : P.underlying T = some (.slice E)) (hs : (P.info? E).map (·.size) = some 1) (a : Option Addr) (n cap h : Nat) (h1 : h ≤ cap) (H : Int) (hH : H = h) :
    (Instr.sliceAt T (.slice a n cap) none (some (.int .i64 H)) none).run P w = .ok (.slice a h cap) w := by
  subst hH
  cases hq : P.info? E with
  | none => simp [hq] at hs
  | some i =>
    have hz : i.size = 1 := by simpa [hq] using hs
    have e : (if cap = 0 then a else a.map (·.add 0)) = a := by
      split
      · rfl
      · cases a with
        | none => rfl
        | some ad =>
          obtain ⟨b, off, sp⟩ := ad
          cases sp <;> simp [Addr.add]
    simp [Instr.sliceAt, Instr.slice, run_underlying hu, Instr.sliceBounds, run_sliceBound, sizeOf, typeInfo, hq, hz, h1, e]
theorem Cells.drop' {k : IntKind} {w : World} {a : Option Addr} {xs : List Int} (h : Cells k w a xs) (l : Nat) (c : Nat) : Cells k w (if c = 0 then a else a.map (·.add l)) (xs.drop l) ∨ c = 0 := by
  by_cases hc : c = 0
  · exact .inr hc
  · left
    rw [if_neg hc]
    intro hp
    rw [List.length_drop] at hp
    obtain ⟨b, off, rfl, hcc⟩ := h (by omega)
    refine ⟨b, off + l, by simp [Addr.add], fun j hj => ?_⟩
    rw [List.length_drop] at hj
    have := hcc (l + j) (by omega)
    rw [nth_drop, Nat.add_assoc]
    exact this
/-- s[l:]: its numbers, and what the operation gives at every world. -/
theorem Sl.from {P : Program} {T E : TypeId} {k : IntKind} {w : World} {a : Option Addr} {cap : Nat} {xs : List Int} (h : Sl k w a cap xs) (hu : P.underlying T = some (.slice E)) (hs : (P.info? E).map (·.size) = some 1) (l : Nat) (hl : l ≤ xs.length) :
    ∃ ad, Sl k w ad (cap - l) (xs.drop l) ∧ ∀ W : World, (Instr.sliceAt T (.slice a xs.length cap) (some (.int .i64 (l : Int))) none none).run P W = .ok (.slice ad (xs.length - l) (cap - l)) W := by
  have hle := h.le
  have hm := h.max
  refine ⟨_, ⟨by rw [List.length_drop]; omega, by omega, ?_⟩, fun W => run_from W T E hu hs a xs.length cap l hl hle l rfl⟩
  rcases h.cells.drop' l (cap - l) with h1 | h1
  · exact h1
  · intro hp
    rw [List.length_drop] at hp
    omega
/-- Where a part of a slice lies: in the same block. -/
theorem Sl.mid {P : Program} {T E : TypeId} {k : IntKind} {w : World} {a : Option Addr} {cap : Nat} {xs : List Int} (h : Sl k w a cap xs) (hu : P.underlying T = some (.slice E)) (hs : (P.info? E).map (·.size) = some 1) (l m : Nat) (hl : l ≤ m) (hm : m ≤ xs.length) :
    ∃ ad, Sl k w ad (cap - l) ((xs.take m).drop l) ∧ ∀ W : World, (Instr.sliceAt T (.slice a xs.length cap) (some (.int .i64 (l : Int))) (some (.int .i64 (m : Int))) none).run P W = .ok (.slice ad (m - l) (cap - l)) W := by
  have hle := h.le
  have hx := h.max
  refine ⟨_, ⟨by rw [List.length_drop, List.length_take]; omega, by omega, ?_⟩, fun W => run_mid W T E hu hs a xs.length cap l m hl (by omega) l m rfl rfl⟩
  rcases (h.cells.take m).drop' l (cap - l) with h1 | h1
  · exact h1
  · intro hp
    rw [List.length_drop, List.length_take] at hp
    omega
end Go.Sg
/- append to a slice of the call's own: the slice that it began with reads as before, too. -/
set_option linter.unusedVariables false
set_option linter.unusedSimpArgs false
namespace Go.Sg
open Go.RowKit
theorem run_append_keep {P : Program} (w : World) (B : Nat) (t ty e : TypeId) (k : IntKind) (bytes : Nat) (ht : P.underlying t = some (.slice e)) (hi : (P.info? e).map (fun i => (i.zero, i.size, i.bytes)) = some (some (.int k 0), 1, bytes))
    (v : Value) (xs : List Int) (hv : New B k e w v xs) (a : Option Addr) (c : Nat) (ys : List Int) (hy : Cells k w a ys) (hm : xs.length + ys.length ≤ 9223372036854775807) (hbytes : (xs.length + ys.length) * bytes ≤ 140737488355328) (hB : B ≤ w.heap.size) :
    ∃ v' w', (Builtin.append_ #[t, t] ty #[v, .slice a ys.length c]).run P w = .ok v' w' ∧ New B k e w' v' (xs ++ ys) ∧ New B k e w' v xs ∧ w.grownBy w' v.ownBlock ∧ (v'.ownBlock = v.ownBlock ∨ ∃ g, v'.ownBlock = some g ∧ w.heap.size ≤ g) := by
  obtain ⟨i, hi0, hz, hs, hby⟩ := info1 hi
  by_cases h0 : ys.length = 0
  · obtain rfl : ys = [] := List.eq_nil_of_length_eq_zero h0
    refine ⟨v, w, ?_, by simpa using hv, hv, ⟨rfl, rfl, rfl, Nat.le_refl _, fun _ _ _ => rfl⟩, .inl rfl⟩
    have hf : (Builtin.firstCells 1 0 (.slice a 0 c)).run P w = .ok #[] w := by
      cases a with
      | none => simp [Builtin.firstCells]
      | some ad => exact run_firstCells_some w 1 0 ad 0 c [] (by simp) (by simp)
    rcases hv with ⟨rfl, rfl⟩ | ⟨g, cap, cs, rfl, _, _, hnc, _⟩
    · simp [Builtin.append_, run_underlying ht, sizeOf, typeInfo, hi0, hs, Builtin.lenOf, hf]
    · simp [Builtin.append_, run_underlying ht, sizeOf, typeInfo, hi0, hs, Builtin.lenOf, hf, hnc, storeCells]
  · obtain ⟨b, off, rfl, hc⟩ := hy (by omega)
    have hnews : ∀ (j : Nat) (u : Value), (ys.map (Value.int k))[j]? = some u → w.cell? ((⟨b, off, none⟩ : Addr).add j) = some u := by
      intro j u hu
      have hadd : (⟨b, off, none⟩ : Addr).add j = ⟨b, off + j, none⟩ := by unfold Addr.add; split <;> simp_all
      rw [List.getElem?_map, Option.map_eq_some_iff] at hu
      obtain ⟨y, hy1, rfl⟩ := hu
      obtain ⟨hj, hje⟩ := List.getElem?_eq_some_iff.1 hy1
      rw [hadd, hc j hj, nth_get _ _ hj, hje]
    have h1 : ∀ u ∈ ys.map (Value.int k), u.oneCell' = true := by
      intro u hu
      obtain ⟨y, _, rfl⟩ := List.mem_map.1 hu
      rfl
    by_cases hroom : ∃ g cap cs, v = .slice (some ⟨g, 0, none⟩) xs.length cap ∧ w.heap[g]? = some (.cells cs e (0, 0)) ∧ B ≤ g ∧ xs.length + ys.length ≤ cap ∧ cap ≤ cs.size ∧ cap ≤ 9223372036854775807 ∧ cs.toList.take xs.length = xs.map (Value.int k)
    · obtain ⟨g, cap, cs, rfl, hh, hbg, hrm, hcs, hcm, htake⟩ := hroom
      have hr := run_append_room (P := P) w t ty e i ht hi0 g xs.length cap cs hh ⟨b, off, none⟩ ys.length c (ys.map (Value.int k)) (by simp [hs]) hnews h1 hrm (by simp [hs]; omega)
      refine ⟨_, _, hr, .inr ⟨g, cap, _, by simp, hbg, setRow_heap w g cs _ e _ hh, by simpa using hrm, ?_, hcm, ?_⟩, .inr ⟨g, cap, _, rfl, hbg, setRow_heap w g cs _ e _ hh, by omega, ?_, hcm, ?_⟩, ⟨rfl, rfl, rfl, by simp, fun j _ hk => setRow_other w g j _ (fun ee => hk (by simp [Value.ownBlock, ee]))⟩, .inl rfl⟩
      · simp [hs]; omega
      · simp only [hs, Nat.mul_one, List.length_append, List.map_append]
        rw [htake]
        apply List.take_left'
        simp
      · simp [hs]; omega
      · simp only [hs, Nat.mul_one]
        rw [htake, List.append_assoc]
        apply List.take_left'
        simp
    · obtain ⟨v', w', hr, h2, h3, h4⟩ := run_append_new (P := P) w B t ty e k bytes ht hi v xs hv (some ⟨b, off, none⟩) c ys hy hm hbytes hB
      have grow : w.grownBy w' none := by
        rcases hv with ⟨rfl, rfl⟩ | ⟨g, cap, cs, rfl, hbg, hh, hnc, hcs, hcm, htake⟩
        · have : (Value.slice none 0 0).ownBlock = none := rfl
          rw [this] at h3; exact h3
        · have hn : ¬ xs.length + ys.length ≤ cap := fun hr => hroom ⟨g, cap, cs, rfl, hh, hbg, hr, hcs, hcm, htake⟩
          have holds : ∀ (j : Nat) (u : Value), (xs.map (Value.int k))[j]? = some u → w.cell? ((⟨g, 0, none⟩ : Addr).add j) = some u := by
            intro j u hu
            have hadd : (⟨g, 0, none⟩ : Addr).add j = ⟨g, j, none⟩ := by unfold Addr.add; split <;> simp_all
            rw [hadd, cell_of_row w g j cs e (0, 0) hh]
            rw [← htake, List.getElem?_take] at hu
            split at hu
            · simpa using hu
            · cases hu
          have hr2 := run_append_grow (P := P) w t ty e i (.int k 0) ht hi0 hz ⟨g, 0, none⟩ xs.length cap (xs.map (Value.int k)) (by simp [hs]) holds ⟨b, off, none⟩ ys.length c (ys.map (Value.int k)) (by simp [hs]) hnews (by omega) (by omega) (growslice_fits (by omega) (by rw [hby]; exact hbytes))
          rw [hr] at hr2
          simp only [Result.ok.injEq] at hr2
          obtain ⟨_, rfl⟩ := hr2
          exact ⟨rfl, rfl, rfl, by simp, fun j hj _ => Below.heap_alloc w.drew _ j hj⟩
      exact ⟨v', w', hr, h2, hv.kept grow (by cases hb : v.ownBlock <;> simp), h3, h4⟩

theorem wpList_append_keep {P : Program} (w : World) {ops : Array Oper} {rest : List Oper} {o : Oper} {a : Act} {Q : Exit → Act → World → Prop} (hgd : o.guard = none) (s x : Operand) (t : TypeId)
    (ho : o.op = .call { callee := .builtin .append, args := #[s, x], argTypes := #[t, t] }) (B : Nat) (e : TypeId) (k : IntKind) (bytes : Nat) (ht : P.underlying t = some (.slice e))
    (hi : (P.info? e).map (fun i => (i.zero, i.size, i.bytes)) = some (some (.int k 0), 1, bytes)) (v : Value) (xs : List Int) (hs : a.eval s = v) (hv : New B k e w v xs)
    (ad : Option Addr) (c n : Nat) (ys : List Int) (hx : a.eval x = .slice ad n c) (hn : n = ys.length) (hy : Cells k w ad ys) (hm : xs.length + ys.length ≤ 9223372036854775807) (hbytes : (xs.length + ys.length) * bytes ≤ 140737488355328) (hB : B ≤ w.heap.size)
    (h : ∀ v' w', New B k e w' v' (xs ++ ys) → New B k e w' v xs → w.grownBy w' v.ownBlock → (v'.ownBlock = v.ownBlock ∨ ∃ g, v'.ownBlock = some g ∧ w.heap.size ≤ g) → wpList P ops Q rest (a.put o.dst v') w') : wpList P ops Q (o :: rest) a w := by
  subst hn
  refine wpList_plain hgd fun K hK => ?_
  obtain ⟨v', w', hr, h2, h2', h3, h4⟩ := run_append_keep (P := P) w B t o.type e k bytes ht hi v xs hv ad c ys hy hm hbytes hB
  unfold Oper.wp execOp
  simp only [ho, resolve, invoke, builtin, Sem.run_bind, Sem.run_pure, Result.andThen_ok, List.map_toArray, List.map_cons, List.map_nil, hs, hx, hr]
  exact hK _ _ (h v' w' h2 h2' h3 h4)
end Go.Sg
/- Many lists of the call's own, each in memory of its own; what has grown out of them by appends. No program in sight. -/
set_option linter.unusedVariables false
set_option linter.unusedSimpArgs false
namespace Go.Sg
open Go.RowKit

theorem New.at_own {B : Nat} {k : IntKind} {E : TypeId} {w : World} {v : Value} {xs : List Int} (h : New B k E w v xs) : ∃ a c, v = .slice a xs.length c ∧ Sl k w a c xs ∧ (∀ b o, a = some ⟨b, o, none⟩ → o = 0 ∧ v.ownBlock = some b) := by
  rcases h with ⟨rfl, rfl⟩ | ⟨g, cap, cs, rfl, hg, hh, h1, h2, h3, h4⟩
  · exact ⟨none, 0, rfl, .nil _ _ _ _ (by omega), fun b o h => by cases h⟩
  · obtain ⟨a, c, hv, hs⟩ := New.sl (.inr ⟨g, cap, cs, rfl, hg, hh, h1, h2, h3, h4⟩ : New B k E w (.slice (some ⟨g, 0, none⟩) xs.length cap) xs)
    simp only [Value.slice.injEq] at hv
    obtain ⟨rfl, _, rfl⟩ := hv
    exact ⟨_, _, rfl, hs, fun b o h => by cases h; exact ⟨rfl, rfl⟩⟩

/-- n lists: V i reads as A i. -/
structure FamV (B : Nat) (k : IntKind) (E : TypeId) (w : World) (n : Nat) (V : Nat → Value) (A : Nat → List Int) : Prop where
  new : ∀ i, i < n → New B k E w (V i) (A i)
  apart : ∀ i j, i < n → j < n → i ≠ j → ∀ g, (V i).ownBlock = some g → (V j).ownBlock ≠ some g
section
variable {B n : Nat} {k : IntKind} {E : TypeId} {w w' : World} {V : Nat → Value} {A : Nat → List Int}
theorem FamV.zero (B : Nat) (k : IntKind) (E : TypeId) (w : World) (V : Nat → Value) (A : Nat → List Int) : FamV B k E w 0 V A := ⟨fun i h => by omega, fun i j h => by omega⟩
theorem FamV.keep (h : FamV B k E w n V A) (hb : Below w.heap.size w w') : FamV B k E w' n V A := ⟨fun i hi => (h.new i hi).keep hb, h.apart⟩
theorem FamV.grown {row : Option Nat} (h : FamV B k E w n V A) (hg : w.grownBy w' row) (hne : ∀ i, i < n → ∀ g, (V i).ownBlock = some g → some g ≠ row) : FamV B k E w' n V A :=
  ⟨fun i hi => (h.new i hi).kept hg (by
    cases hv : (V i).ownBlock with
    | none => exact .inl rfl
    | some g => exact .inr (hne i hi g hv)), h.apart⟩
theorem FamV.mono {B' : Nat} (h : FamV B k E w n V A) (hB : B' ≤ B) : FamV B' k E w n V A := ⟨fun i hi => (h.new i hi).mono hB, h.apart⟩
/-- One more list, made since. -/
theorem FamV.push {v : Value} {xs : List Int} (h : FamV B k E w n V A) (hv : New B k E w' v xs) (hb : Below w.heap.size w w') (hf : ∀ g, v.ownBlock = some g → w.heap.size ≤ g) :
    FamV B k E w' (n + 1) (fun i => if i < n then V i else v) (fun i => if i < n then A i else xs) := by
  have h2 := h.keep hb
  refine ⟨fun i hi => ?_, fun i j hi hj hne g hg => ?_⟩
  · by_cases e : i < n
    · simp only [e, if_true]
      exact h2.new i e
    · simp only [e, if_false]
      exact hv
  · by_cases e1 : i < n <;> by_cases e2 : j < n <;> simp only [e1, e2, if_true, if_false] at hg ⊢
    · exact h.apart i j e1 e2 hne g hg
    · intro hg2
      have h3 := ((h.new i e1).lt g hg).2
      have := hf g hg2
      omega
    · intro hg2
      have h3 := ((h.new j e2).lt g hg2).2
      have := hf g hg
      omega
    · exact absurd (show i = j by omega) hne
/-- A number is stored into one of them. -/
theorem FamV.set (h : FamV B k E w n V A) {i j : Nat} (hi : i < n) (hj : j < (A i).length) (x : Int) {g o : Nat} {c : Nat} (hv : V i = .slice (some ⟨g, o, none⟩) (A i).length c) :
    o = 0 ∧ w.frozen? ⟨g, j, none⟩ = false ∧ w.cell? ⟨g, j, none⟩ = some (.int k (nth (A i) j)) ∧ B ≤ g ∧ g < w.heap.size ∧ FamV B k E (w.setCell ⟨g, j, none⟩ (.int k x)) n V (fun m => if m = i then (A i).set j x else A m) := by
  obtain ⟨g2, c2, hv2, hB, hp⟩ := (h.new i hi).pre (by omega)
  rw [hv] at hv2
  simp only [Value.slice.injEq, Option.some.injEq, Addr.mk.injEq, and_true] at hv2
  obtain ⟨⟨rfl, rfl⟩, _, rfl⟩ := hv2
  refine ⟨rfl, hp.free j, hp.cell j hj, hB, hp.lt, fun m hm => ?_, h.apart⟩
  by_cases e : m = i
  · subst e
    simp only [if_true]
    have := (hp.set j x).new hB
    rwa [List.length_set, ← hv] at this
  · simp only [e, if_false]
    refine (h.new m hm).kept (grownBy_set w ⟨g, j, none⟩ (.int k x)) ?_
    cases hv3 : (V m).ownBlock with
    | none => exact .inl rfl
    | some g3 =>
      refine .inr fun e2 => ?_
      have e3 := Option.some.inj e2
      subst e3
      exact h.apart m i hm hi e g3 hv3 (by rw [hv]; rfl)
theorem FamV.congr {A' : Nat → List Int} (h : FamV B k E w n V A) (e : ∀ i, i < n → A i = A' i) : FamV B k E w n V A' := ⟨fun i hi => by rw [← e i hi]; exact h.new i hi, h.apart⟩
theorem FamV.own (h : FamV B k E w n V A) {i : Nat} (hi : i < n) : ∃ a c, V i = .slice a (A i).length c ∧ Sl k w a c (A i) ∧ (∀ b o, a = some ⟨b, o, none⟩ → B ≤ b ∧ b < w.heap.size) := by
  obtain ⟨a, c, hv, hs, ho⟩ := (h.new i hi).at_own
  exact ⟨a, c, hv, hs, fun b o ha => (h.new i hi).lt b (ho b o ha).2⟩
end

/-- One list of the call's own: v as it was handed out (reads A), u what has grown out of it. -/
structure ExtK (S B : Nat) (k : IntKind) (E : TypeId) (w : World) (v : Value) (A : List Int) (u : Value) (X : List Int) : Prop where
  sa : ∃ a c, v = .slice a A.length c ∧ Sl k w a c A ∧ (∀ b o, a = some ⟨b, o, none⟩ → o = 0)
  nx : New B k E w u (A ++ X)
  own : ∀ g, u.ownBlock = some g → v.ownBlock = some g ∨ S ≤ g
  old : ∀ g, v.ownBlock = some g → g < S ∧ B ≤ g
section
variable {S B : Nat} {k : IntKind} {E : TypeId} {w w' : World} {v u u' : Value} {A X ys : List Int}
theorem ExtK.start (h : New B k E w v A) (hS : w.heap.size ≤ S) : ExtK S B k E w v A v [] := by
  obtain ⟨a, c, hv, hs, ho⟩ := h.at_own
  exact ⟨⟨a, c, hv, hs, fun b o ha => (ho b o ha).1⟩, by rw [List.append_nil]; exact h, fun g hg => .inl hg, fun g hg => by have := h.lt g hg; omega⟩
theorem ExtK.below (h : ExtK S B k E w v A u X) (hb : Below w.heap.size w w') : ExtK S B k E w' v A u X := by
  obtain ⟨a, c, hv, hs, ho⟩ := h.sa
  exact ⟨⟨a, c, hv, hs.below hb, ho⟩, h.nx.keep hb, h.own, h.old⟩
theorem ExtK.grown {row : Option Nat} (h : ExtK S B k E w v A u X) (hg : w.grownBy w' row) (h1 : ∀ g, v.ownBlock = some g → some g ≠ row) (h2 : ∀ g, u.ownBlock = some g → some g ≠ row) : ExtK S B k E w' v A u X := by
  obtain ⟨a, c, hv, hs, ho⟩ := h.sa
  refine ⟨⟨a, c, hv, hs.grown' hg (fun b off ha _ => h1 b (by rw [hv, ha]; rfl)), ho⟩, h.nx.kept hg ?_, h.own, h.old⟩
  cases hu : u.ownBlock with
  | none => exact .inl rfl
  | some g => exact .inr (h2 g hu)
theorem ExtK.append (h : ExtK S B k E w v A u X) (n1 : New B k E w' u' (A ++ X ++ ys)) (n0 : New B k E w' u (A ++ X)) (hg : w.grownBy w' u.ownBlock)
    (ho : u'.ownBlock = u.ownBlock ∨ ∃ g, u'.ownBlock = some g ∧ w.heap.size ≤ g) (hS : S ≤ w.heap.size) : ExtK S B k E w' v A u' (X ++ ys) := by
  obtain ⟨a, c, hv, hs, hz⟩ := h.sa
  refine ⟨⟨a, c, hv, ?_, hz⟩, by rw [← List.append_assoc]; exact n1, fun g hg' => ?_, h.old⟩
  · cases hu : u.ownBlock with
    | none => rw [hu] at hg; exact hs.grown' hg (fun b off _ _ => by simp)
    | some g =>
      rw [hu] at hg
      rcases h.own g hu with ha | hs2
      · refine ⟨hs.le, hs.max, fun hp => ?_⟩
        obtain ⟨b, off, rfl, hc⟩ := hs.cells hp
        obtain rfl := hz b off rfl
        rw [hv] at ha
        have hbg : b = g := by simpa [Value.ownBlock] using ha
        subst hbg
        obtain ⟨a2, c2, hv2, hs2, ho2⟩ := n0.at_own
        obtain ⟨b2, off2, rfl, hc2⟩ := hs2.cells (by rw [List.length_append]; omega)
        obtain ⟨rfl, ho3⟩ := ho2 b2 off2 rfl
        rw [hu] at ho3
        cases ho3
        have t := (hs2.take A.length).cells
        rw [List.take_left] at t
        exact t hp
      · exact hs.grown' hg (fun b off ha _ e => by
          have := (h.old b (by rw [hv, ha]; rfl)).1
          have := Option.some.inj e
          omega)
  · rcases ho with e | ⟨g2, e, hg2⟩
    · exact h.own g (e ▸ hg')
    · rw [e] at hg'
      have := Option.some.inj hg'
      exact .inr (by omega)
end

/-- n lists as they were handed out (V i reads as A i), and what has grown out of each (U i: A i and X i). -/
structure Fam (S B : Nat) (k : IntKind) (E : TypeId) (w : World) (n : Nat) (V U : Nat → Value) (A X : Nat → List Int) : Prop where
  ext : ∀ i, i < n → ExtK S B k E w (V i) (A i) (U i) (X i)
  apart : ∀ i j, i < n → j < n → i ≠ j → ∀ g, (U i).ownBlock = some g → (V j).ownBlock ≠ some g ∧ (U j).ownBlock ≠ some g
  vv : ∀ i j, i < n → j < n → i ≠ j → ∀ g, (V i).ownBlock = some g → (V j).ownBlock ≠ some g
section
variable {S B n : Nat} {k : IntKind} {E : TypeId} {w w' : World} {V U : Nat → Value} {A X : Nat → List Int}
theorem FamV.fam (h : FamV B k E w n V A) (hS : w.heap.size ≤ S) : Fam S B k E w n V V A (fun _ => []) :=
  ⟨fun i hi => .start (h.new i hi) hS, fun i j hi hj hne g hg => ⟨h.apart i j hi hj hne g hg, h.apart i j hi hj hne g hg⟩, h.apart⟩
theorem Fam.keep (h : Fam S B k E w n V U A X) (hb : Below w.heap.size w w') : Fam S B k E w' n V U A X := ⟨fun i hi => (h.ext i hi).below hb, h.apart, h.vv⟩
theorem Fam.grown {row : Option Nat} (h : Fam S B k E w n V U A X) (hg : w.grownBy w' row) (h1 : ∀ i, i < n → ∀ g, (V i).ownBlock = some g → some g ≠ row) (h2 : ∀ i, i < n → ∀ g, (U i).ownBlock = some g → some g ≠ row) : Fam S B k E w' n V U A X :=
  ⟨fun i hi => (h.ext i hi).grown hg (h1 i hi) (h2 i hi), h.apart, h.vv⟩
/-- One of them grows by an append. -/
theorem Fam.append (h : Fam S B k E w n V U A X) {i : Nat} (hi : i < n) {u' : Value} {ys : List Int} (n1 : New B k E w' u' (A i ++ X i ++ ys)) (n0 : New B k E w' (U i) (A i ++ X i)) (hg : w.grownBy w' (U i).ownBlock)
    (ho : u'.ownBlock = (U i).ownBlock ∨ ∃ g, u'.ownBlock = some g ∧ w.heap.size ≤ g) (hS : S ≤ w.heap.size) :
    Fam S B k E w' n V (fun m => if m = i then u' else U m) A (fun m => if m = i then X i ++ ys else X m) := by
  have low : ∀ m, m < n → ∀ g, (U m).ownBlock = some g → g < w.heap.size := fun m hm g hg => ((h.ext m hm).nx.lt g hg).2
  have lowV : ∀ m, m < n → ∀ g, (V m).ownBlock = some g → g < w.heap.size := fun m hm g hg => Nat.lt_of_lt_of_le ((h.ext m hm).old g hg).1 hS
  have fresh : ∀ g, u'.ownBlock = some g → (U i).ownBlock = some g ∨ w.heap.size ≤ g := fun g hg => by
    rcases ho with e | ⟨g2, e, hge⟩
    · exact .inl (e ▸ hg)
    · rw [e] at hg
      have := Option.some.inj hg
      exact .inr (by omega)
  refine ⟨fun m hm => ?_, fun a b ha hb hne g hg2 => ?_, h.vv⟩
  · by_cases e : m = i
    · subst e
      simp only [if_true]
      exact (h.ext m hm).append n1 n0 hg ho hS
    · simp only [e, if_false]
      refine (h.ext m hm).grown hg (fun g hv e2 => ?_) (fun g hv e2 => ?_)
      · exact (h.apart i m hi hm (fun e3 => e e3.symm) g e2.symm).1 hv
      · exact (h.apart i m hi hm (fun e3 => e e3.symm) g e2.symm).2 hv
  · by_cases e1 : a = i
    · subst e1
      simp only [if_true] at hg2
      have e2 : ¬ b = a := fun e => hne e.symm
      simp only [e2, if_false]
      rcases fresh g hg2 with h3 | h3
      · exact h.apart a b ha hb hne g h3
      · exact ⟨fun h4 => by have := lowV b hb g h4; omega, fun h4 => by have := low b hb g h4; omega⟩
    · simp only [e1, if_false] at hg2
      by_cases e2 : b = i
      · subst e2
        simp only [if_true]
        refine ⟨(h.apart a b ha hb hne g hg2).1, fun h4 => ?_⟩
        rcases fresh g h4 with h3 | h3
        · exact (h.apart a b ha hb hne g hg2).2 h3
        · have := low a ha g hg2
          omega
      · simp only [e2, if_false]
        exact h.apart a b ha hb hne g hg2
theorem Fam.congr {U' : Nat → Value} {A' X' : Nat → List Int} (h : Fam S B k E w n V U A X) (e1 : ∀ i, i < n → U i = U' i) (e2 : ∀ i, i < n → X i = X' i) (e3 : ∀ i, i < n → A i = A' i) : Fam S B k E w n V U' A' X' :=
  ⟨fun i hi => by rw [← e1 i hi, ← e2 i hi, ← e3 i hi]; exact h.ext i hi, fun i j hi hj hne g hg => by
    rw [← e1 i hi] at hg
    rw [← e1 j hj]
    exact h.apart i j hi hj hne g hg, h.vv⟩
end

/-- A row of the call's own whose places hold slices. -/
structure RowV (w : World) (g n : Nat) (V : Nat → Value) : Prop where
  lt : g < w.heap.size
  cell : ∀ j, j < n → w.cell? ⟨g, j, none⟩ = some (V j)
theorem RowV.grown {w w' : World} {g n : Nat} {V : Nat → Value} {row : Option Nat} (h : RowV w g n V) (hg : w.grownBy w' row) (hne : some g ≠ row) : RowV w' g n V :=
  ⟨Nat.lt_of_lt_of_le h.lt hg.size, fun j hj => (World.cell?_of_block (a := ⟨g, j, none⟩) (hg.block g h.lt hne)).trans (h.cell j hj)⟩
theorem RowV.keep {w w' : World} {g n : Nat} {V : Nat → Value} (h : RowV w g n V) (hb : Below w.heap.size w w') : RowV w' g n V :=
  ⟨Nat.lt_of_lt_of_le h.lt hb.size, fun j hj => (World.cell?_of_block (a := ⟨g, j, none⟩) (hb.block g h.lt)).trans (h.cell j hj)⟩
theorem RowV.new (w : World) (E : TypeId) (n : Nat) (V : Nat → Value) (cs : Array Value) (hcs : ∀ j, j < n → cs[j]? = some (V j)) (g : Nat) (hg : g = w.heap.size) : RowV (w.alloc (.cells cs E)) g n V := by
  subst hg
  refine ⟨by simp, fun j hj => ?_⟩
  rw [cell_of_row (w.alloc (.cells cs E)) w.heap.size j cs E (0, 0) (by show (w.heap.push _)[w.heap.size]? = _; simp)]
  exact hcs j hj
/-- A row whose places are slices is none of numbers. -/
theorem NewV.aside' {B : Nat} {E E' : TypeId} {k : IntKind} {w : World} {v u : Value} {vs : List Value} {B' : Nat} {xs : List Int} (h : NewV B E w v vs) (hu : New B' k E' w u xs) (hne : E' ≠ E) : ∀ g, u.ownBlock = some g → some g ≠ v.ownBlock := by
  intro g hg e
  rcases h with ⟨rfl, _⟩ | ⟨g', cp, cs, rfl, hbg, hh, _⟩
  · simp [Value.ownBlock] at e
  · rcases hu with ⟨rfl, _⟩ | ⟨g2, cap2, cs2, rfl, hb2, hh2, _⟩
    · simp [Value.ownBlock] at hg
    · simp only [Value.ownBlock, Option.some.injEq] at hg e
      subst hg
      subst e
      rw [hh] at hh2
      simp only [Option.some.injEq, Obj.cells.injEq] at hh2
      exact hne hh2.2.1.symm
end Go.Sg
/- Rows of the call's own whose places are slices: several are appended at once. (Printed by gen_rowsc.py.) -/
set_option linter.unusedVariables false
set_option linter.unusedSimpArgs false
namespace Go.Sg
open Go.RowKit

theorem run_append_newVs {P : Program} (w : World) (B : Nat) (t ty e : TypeId) (bytes : Nat) (ht : P.underlying t = some (.slice e)) (hi : (P.info? e).map (fun i => (i.zero, i.size, i.bytes)) = some (some (.slice none 0 0), 1, bytes))
    (v : Value) (vs : List Value) (hv : NewV B e w v vs) (a : Addr) (c : Nat) (us : List Value) (hone : ∀ u ∈ us, ∃ a n c, u = Value.slice a n c) (hnews : ∀ (j : Nat) (x : Value), us[j]? = some x → w.cell? (a.add j) = some x) (hp : 0 < us.length) (hm : vs.length + us.length ≤ 9223372036854775807) (hbytes : (vs.length + us.length) * bytes ≤ 140737488355328) (hB : B ≤ w.heap.size) :
    ∃ v' w', (Builtin.append_ #[t, t] ty #[v, .slice (some a) us.length c]).run P w = .ok v' w' ∧ NewV B e w' v' (vs ++ us) ∧ w.grownBy w' v.ownBlock ∧ (v'.ownBlock = v.ownBlock ∨ ∃ g, v'.ownBlock = some g ∧ w.heap.size ≤ g) := by
  obtain ⟨i, hi0, hz, hs, hby⟩ : ∃ i, P.info? e = some i ∧ i.zero = some (.slice none 0 0) ∧ i.size = 1 ∧ i.bytes = bytes := info_parts hi
  have h1 : ∀ x ∈ us, x.oneCell' = true := fun x hx => one_slice (hone x hx)
  have grown : ∀ (old : Nat), old < vs.length + us.length → ∀ (row : Option Nat),
      NewV B e (w.drew.alloc (.cells (vs.toArray ++ us.toArray ++ Builtin.zeroCells (Value.cells (.slice none 0 0)) (grownCap w (vs.length + us.length) old e - (vs.length + us.length))) e))
        (.slice (some ⟨w.heap.size, 0, none⟩) (vs.length + us.length) (grownCap w (vs.length + us.length) old e)) (vs ++ us) ∧
      w.grownBy (w.drew.alloc (.cells (vs.toArray ++ us.toArray ++ Builtin.zeroCells (Value.cells (.slice none 0 0)) (grownCap w (vs.length + us.length) old e - (vs.length + us.length))) e)) row := by
    intro old ho row
    have hge := grownCap_ge w (vs.length + us.length) old e
    have hcm : grownCap w (vs.length + us.length) old e ≤ maxLen := grownCap_le_maxLen w (vs.length + us.length) old e (by unfold maxLen; omega)
    unfold maxLen at hcm
    refine ⟨.inr ⟨w.heap.size, grownCap w (vs.length + us.length) old e, _, by simp, hB, Go.heap_alloc_new w.drew _, by simp; omega, ?_, by omega, ?_⟩, ⟨rfl, rfl, rfl, by simp, fun j hj _ => Below.heap_alloc w.drew _ j hj⟩⟩
    · simp only [Array.size_append, List.size_toArray, size_zeroCells]
      rw [show (Value.cells (.slice none 0 0)).size = 1 from rfl]
      simp
      omega
    · simp only [Array.toList_append, List.append_assoc, List.length_append]
      rw [← List.append_assoc]
      apply List.take_left'
      simp
  rcases hv with ⟨rfl, rfl⟩ | ⟨g, cap, cs, rfl, hbg, hh, hnc, hcs, hcm, htake⟩
  · have hr := run_append_nil (P := P) w t ty e i (.slice none 0 0) ht hi0 hz a us.length c us (by simp [hs]) hnews (by omega) (by simp at hm; omega) (by rw [hby]; simp at hbytes; omega)
    have hgr := grown 0 (by simp; omega) (Value.ownBlock (.slice none 0 0))
    simp only [List.length_nil, Nat.zero_add, Array.empty_append, List.nil_append] at hgr ⊢
    exact ⟨_, _, hr, hgr.1, hgr.2, .inr ⟨_, rfl, Nat.le_refl _⟩⟩
  · by_cases hroom : vs.length + us.length ≤ cap
    · have hr := run_append_room (P := P) w t ty e i ht hi0 g vs.length cap cs hh a us.length c us (by simp [hs]) hnews h1 hroom (by simp [hs]; omega)
      refine ⟨_, _, hr, .inr ⟨g, cap, _, by simp, hbg, setRow_heap w g cs _ e _ hh, by simpa using hroom, ?_, hcm, ?_⟩, ⟨rfl, rfl, rfl, by simp, fun j _ hk => setRow_other w g j _ (fun ee => hk (by simp [Value.ownBlock, ee]))⟩, .inl rfl⟩
      · simp [hs]; omega
      · simp only [hs, Nat.mul_one, List.length_append]
        rw [htake]
        apply List.take_left'
        simp
    · have holds : ∀ (j : Nat) (x : Value), vs[j]? = some x → w.cell? ((⟨g, 0, none⟩ : Addr).add j) = some x := by
        intro j x hx
        have hadd : (⟨g, 0, none⟩ : Addr).add j = ⟨g, j, none⟩ := by unfold Addr.add; split <;> simp_all
        rw [hadd, cell_of_row w g j cs e (0, 0) hh]
        rw [← htake, List.getElem?_take] at hx
        split at hx
        · simpa using hx
        · cases hx
      have hr := run_append_grow (P := P) w t ty e i (.slice none 0 0) ht hi0 hz ⟨g, 0, none⟩ vs.length cap vs (by simp [hs]) holds a us.length c us (by simp [hs]) hnews (by omega) (by omega) (growslice_fits (by omega) (by rw [hby]; exact hbytes))
      have hgr := grown cap (by omega) (Value.ownBlock (.slice (some ⟨g, 0, none⟩) vs.length cap))
      exact ⟨_, _, hr, hgr.1, hgr.2, .inr ⟨_, rfl, Nat.le_refl _⟩⟩

theorem wpList_append_newVs {P : Program} (w : World) {ops : Array Oper} {rest : List Oper} {o : Oper} {a : Act} {Q : Exit → Act → World → Prop} (hgd : o.guard = none) (s x : Operand) (t : TypeId)
    (ho : o.op = .call { callee := .builtin .append, args := #[s, x], argTypes := #[t, t] }) (B : Nat) (e : TypeId) (bytes : Nat) (ht : P.underlying t = some (.slice e))
    (hi : (P.info? e).map (fun i => (i.zero, i.size, i.bytes)) = some (some (.slice none 0 0), 1, bytes)) (v : Value) (vs : List Value) (hs : a.eval s = v) (hv : NewV B e w v vs)
    (ad : Addr) (c : Nat) (us : List Value) (hone : ∀ u ∈ us, ∃ a n c, u = Value.slice a n c) (hx : a.eval x = .slice (some ad) us.length c) (hu : ∀ (j : Nat) (x : Value), us[j]? = some x → w.cell? (ad.add j) = some x) (hp : 0 < us.length) (hm : vs.length + us.length ≤ 9223372036854775807) (hbytes : (vs.length + us.length) * bytes ≤ 140737488355328) (hB : B ≤ w.heap.size)
    (h : ∀ v' w', NewV B e w' v' (vs ++ us) → w.grownBy w' v.ownBlock → (v'.ownBlock = v.ownBlock ∨ ∃ g, v'.ownBlock = some g ∧ w.heap.size ≤ g) → wpList P ops Q rest (a.put o.dst v') w') : wpList P ops Q (o :: rest) a w := by
  refine wpList_plain hgd fun K hK => ?_
  obtain ⟨v', w', hr, h2, h3, h4⟩ := run_append_newVs (P := P) w B t o.type e bytes ht hi v vs hv ad c us hone hu hp hm hbytes hB
  unfold Oper.wp execOp
  simp only [ho, resolve, invoke, builtin, Sem.run_bind, Sem.run_pure, Result.andThen_ok, List.map_toArray, List.map_cons, List.map_nil, hs, hx, hr]
  exact hK _ _ (h v' w' h2 h3 h4)
end Go.Sg
/- Families of lists of the call's own, laid in a row. No program in sight. -/
set_option linter.unusedVariables false
set_option linter.unusedSimpArgs false
namespace Go.Sg
open Go.RowKit
theorem range_push {V V' : Nat → Value} {n : Nat} {v : Value} (h1 : ∀ j, j < n → V' j = V j) (h2 : V' n = v) : (List.range (n + 1)).map V' = (List.range n).map V ++ [v] := by
  rw [List.range_succ, List.map_append, List.map_cons, List.map_nil, h2]
  congr 1
  exact List.map_congr_left fun j hj => h1 j (List.mem_range.1 hj)
section
variable {B n : Nat} {k : IntKind} {E T : TypeId} {w w' : World} {V : Nat → Value} {A : Nat → List Int}
/-- One more list, made since: the row and the lists by new names. -/
theorem FamV.push' {v : Value} {xs : List Int} (h : FamV B k E w n V A) (hv : New B k E w' v xs) (hb : Below w.heap.size w w') (hf : ∀ g, v.ownBlock = some g → w.heap.size ≤ g) :
    ∃ V' A', FamV B k E w' (n + 1) V' A' ∧ (List.range (n + 1)).map V' = (List.range n).map V ++ [v] ∧ (∀ j, j < n → A' j = A j) ∧ A' n = xs ∧ (∀ j, j < n → V' j = V j) ∧ V' n = v := by
  have e1 : ∀ j, j < n → (if j < n then V j else v) = V j := fun j hj => if_pos hj
  have e2 : (if n < n then V n else v) = v := if_neg (by omega)
  exact ⟨_, _, h.push hv hb hf, range_push e1 e2, fun j hj => if_pos hj, if_neg (by omega), e1, e2⟩
/-- A row whose places are the slices of n lists. -/
structure Lists (B : Nat) (k : IntKind) (E T : TypeId) (w : World) (l : Value) (n : Nat) (V : Nat → Value) (A : Nat → List Int) : Prop where
  row : NewV B T w l ((List.range n).map V)
  fam : FamV B k E w n V A
theorem Lists.keep {l : Value} (h : Lists B k E T w l n V A) (hb : Below w.heap.size w w') : Lists B k E T w' l n V A := ⟨h.row.keep hb, h.fam.keep hb⟩
theorem Lists.sl {l : Value} (h : Lists B k E T w l n V A) : ∃ a c, l = .slice a n c := by
  obtain ⟨a, c, e⟩ := h.row.sl
  rw [List.length_map, List.length_range] at e
  exact ⟨a, c, e⟩
theorem NewV.place {a : Option Addr} {m c i : Nat} (h : NewV B T w (.slice a m c) ((List.range n).map V)) (hi : i < n) : ∃ g, a = some ⟨g, 0, none⟩ ∧ w.cell? ⟨g, i, none⟩ = some (V i) := by
  obtain ⟨g, ha, _, hc⟩ := h.cell i (by simpa using hi)
  refine ⟨g, ha, ?_⟩
  rw [hc]
  simp
/-- A number is stored into one of the lists. -/
theorem Lists.set {l : Value} (h : Lists B k E T w l n V A) (hne : E ≠ T) {i j : Nat} (hi : i < n) (hj : j < (A i).length) (x : Int) {g o c : Nat} (hv : V i = .slice (some ⟨g, o, none⟩) (A i).length c) :
    o = 0 ∧ w.frozen? ⟨g, j, none⟩ = false ∧ w.cell? ⟨g, j, none⟩ = some (.int k (nth (A i) j)) ∧ B ≤ g ∧ g < w.heap.size ∧ Lists B k E T (w.setCell ⟨g, j, none⟩ (.int k x)) l n V (fun m => if m = i then (A i).set j x else A m) := by
  obtain ⟨h0, h1, h2, h3, h4, h5⟩ := h.fam.set hi hj x hv
  refine ⟨h0, h1, h2, h3, h4, ?_, h5⟩
  have hn := h.fam.new i hi
  have hg : (V i).ownBlock = some g := by rw [hv]; rfl
  have ha := h.row.aside' hn hne g hg
  refine h.row.kept (grownBy_set w ⟨g, j, none⟩ (.int k x)) ?_
  cases hl : l.ownBlock with
  | none => exact .inl rfl
  | some q => exact .inr fun e => ha (by rw [hl, e])
theorem Lists.congr {l : Value} {A' : Nat → List Int} (h : Lists B k E T w l n V A) (e : ∀ i, i < n → A i = A' i) : Lists B k E T w l n V A' := ⟨h.row, h.fam.congr e⟩
end
theorem cells_news (w : World) (E : TypeId) (us : List Value) (arr : Array Value) (he : arr = us.toArray) (g : Nat) (hg : g = w.heap.size) : ∀ (j : Nat) (x : Value), us[j]? = some x → (w.alloc (.cells arr E)).cell? ((⟨g, 0, none⟩ : Addr).add j) = some x := by
  intro j x hx
  subst he hg
  have hadd : (⟨w.heap.size, 0, none⟩ : Addr).add j = ⟨w.heap.size, j, none⟩ := by unfold Addr.add; split <;> simp_all
  rw [hadd, cell_of_row (w.alloc (.cells us.toArray E)) w.heap.size j us.toArray E (0, 0) (Go.heap_alloc_new w _)]
  simpa using hx
/-- A row and its lists, when the row has grown by an append. -/
theorem Lists.grow {B n n' : Nat} {k : IntKind} {E T : TypeId} {w w' : World} {V V' : Nat → Value} {A' : Nat → List Int} {l l' : Value} {us : List Value} (hr : NewV B T w l ((List.range n).map V)) (hf : FamV B k E w n' V' A') (hne : E ≠ T)
    (h1 : NewV B T w' l' ((List.range n).map V ++ us)) (hg : w.grownBy w' l.ownBlock) (e : (List.range n').map V' = (List.range n).map V ++ us) : Lists B k E T w' l' n' V' A' :=
  ⟨by rw [e]; exact h1, hf.grown hg fun i hi g hv => hr.aside' (hf.new i hi) hne g hv⟩
/-- A row whose places are slices is no block of numbers. -/
theorem NewV.aside_blk {B g : Nat} {E E' : TypeId} {k : IntKind} {w : World} {v : Value} {vs : List Value} {xs : List Int} (h : NewV B E w v vs) (hu : Blk w g k E' xs) (hne : E' ≠ E) : some g ≠ v.ownBlock := by
  intro e
  rcases h with ⟨rfl, _⟩ | ⟨g', cp, cs, rfl, hbg, hh, _⟩
  · simp [Value.ownBlock] at e
  · simp only [Value.ownBlock, Option.some.injEq] at e
    subst e
    have h2 : w.heap[g]? = _ := hu
    rw [hh] at h2
    simp only [Option.some.injEq, Obj.cells.injEq] at h2
    exact hne h2.2.1.symm
theorem fill_at (z : List Int) (k : Nat) (x : Int) (hk : k < z.length) : (List.replicate k x ++ z.drop k).set k x = List.replicate (k + 1) x ++ z.drop (k + 1) := by
  rw [List.set_append_right _ _ (by rw [List.length_replicate]; omega), List.length_replicate, Nat.sub_self, List.drop_eq_getElem_cons hk, List.set_cons_zero, List.replicate_succ', List.append_assoc]
  rfl
theorem Lists.put {B n i j : Nat} {k : IntKind} {E T : TypeId} {w : World} {V : Nat → Value} {A : Nat → List Int} {l : Value} (h : Lists B k E T w l n V A) (hne : E ≠ T) (hi : i < n) (hj : j < (A i).length) (x : Int) :
    ∃ g c, V i = .slice (some ⟨g, 0, none⟩) (A i).length c ∧ w.frozen? ⟨g, j, none⟩ = false ∧ w.cell? ⟨g, j, none⟩ = some (.int k (nth (A i) j)) ∧ B ≤ g ∧ Lists B k E T (w.setCell ⟨g, j, none⟩ (.int k x)) l n V (fun m => if m = i then (A i).set j x else A m) := by
  obtain ⟨a, c, hv, hs, _⟩ := h.fam.own hi
  obtain ⟨b, off, rfl, _⟩ := hs.cells (by omega)
  obtain ⟨rfl, h1, h2, h3, _, h5⟩ := h.set hne hi hj x hv
  exact ⟨b, c, hv, h1, h2, h3, h5⟩
/-- The first i lists written full with a number of their own; of list i the first t places too. -/
def fillF (f : Nat → Int) (A : Nat → List Int) (i t : Nat) : Nat → List Int := fun j => if j < i then List.replicate (A j).length (f j) else if j = i then List.replicate t (f i) ++ (A i).drop t else A j
theorem fillF_start (f : Nat → Int) (A : Nat → List Int) (j : Nat) : fillF f A 0 0 j = A j := by
  unfold fillF
  rw [if_neg (by omega)]
  split
  · next h => rw [h]; rfl
  · rfl
theorem fillF_step (f : Nat → Int) (A : Nat → List Int) (i t : Nat) (ht : t < (A i).length) (j : Nat) : (if j = i then (fillF f A i t i).set t (f i) else fillF f A i t j) = fillF f A i (t + 1) j := by
  unfold fillF
  by_cases h1 : j = i
  · subst h1
    rw [if_pos rfl, if_neg (by omega), if_pos rfl, if_neg (by omega), if_pos rfl]
    exact fill_at _ _ _ ht
  · rw [if_neg h1, if_neg h1, if_neg h1]
theorem fillF_next (f : Nat → Int) (A : Nat → List Int) (i j : Nat) : fillF f A i (A i).length j = fillF f A (i + 1) 0 j := by
  unfold fillF
  by_cases h1 : j < i
  · rw [if_pos h1, if_pos (by omega)]
  · rw [if_neg h1]
    by_cases h2 : j = i
    · subst h2
      rw [if_pos rfl, if_pos (by omega), List.drop_length, List.append_nil]
    · rw [if_neg h2, if_neg (by omega)]
      split
      · next h3 => rw [h3]; simp
      · rfl
theorem fillF_len (f : Nat → Int) (A : Nat → List Int) (i t j : Nat) (ht : t ≤ (A i).length) : (fillF f A i t j).length = (A j).length := by
  unfold fillF
  split
  · exact List.length_replicate
  · split
    · next h => rw [h, List.length_append, List.length_replicate, List.length_drop]; omega
    · rfl
/-- What has grown: behind the first i lists n numbers of their own each, behind list i t of them. -/
def growF (f : Nat → Int) (n i t : Nat) : Nat → List Int := fun j => if j < i then List.replicate n (f j) else if j = i then List.replicate t (f i) else []
theorem growF_start (f : Nat → Int) (n j : Nat) : growF f n 0 0 j = [] := by
  unfold growF
  rw [if_neg (by omega)]
  split <;> rfl
theorem growF_step (f : Nat → Int) (n i t j : Nat) : (if j = i then growF f n i t i ++ [f i] else growF f n i t j) = growF f n i (t + 1) j := by
  unfold growF
  by_cases h1 : j = i
  · subst h1
    rw [if_pos rfl, if_neg (by omega), if_pos rfl, if_neg (by omega), if_pos rfl, List.replicate_succ']
  · rw [if_neg h1, if_neg h1, if_neg h1]
theorem growF_next (f : Nat → Int) (n i j : Nat) : growF f n i n j = growF f n (i + 1) 0 j := by
  unfold growF
  by_cases h1 : j < i
  · rw [if_pos h1, if_pos (by omega)]
  · rw [if_neg h1]
    by_cases h2 : j = i
    · subst h2
      rw [if_pos rfl, if_pos (by omega)]
    · rw [if_neg h2, if_neg (by omega)]
      split <;> rfl
theorem growF_at (f : Nat → Int) (n i t : Nat) : growF f n i t i = List.replicate t (f i) := by
  unfold growF
  rw [if_neg (by omega), if_pos rfl]
theorem NewV.keptN {B B' : Nat} {k : IntKind} {E E' : TypeId} {w w' : World} {v u : Value} {vs : List Value} {xs : List Int} (h : NewV B E w v vs) (hu : New B' k E' w u xs) (hne : E' ≠ E) (hg : w.grownBy w' u.ownBlock) : NewV B E w' v vs := by
  refine h.kept hg ?_
  cases hv : v.ownBlock with
  | none => exact .inl rfl
  | some g => exact .inr fun e => h.aside' hu hne g e.symm (by rw [hv])
/-- How a list that was overwritten, and grew, is told. -/
theorem grown_lo {n j k : Nat} {x y : Int} (hk : k < n) : nth (List.replicate n x ++ List.replicate j y) k = x := by
  rw [nth_append_left _ _ _ (by rw [List.length_replicate]; exact hk), nth_get _ _ (by rw [List.length_replicate]; exact hk)]
  simp
theorem grown_hi {n j k : Nat} {x y : Int} (hk : n ≤ k) (hj : k < n + j) : nth (List.replicate n x ++ List.replicate j y) k = y := by
  obtain ⟨i, rfl⟩ : ∃ i, k = n + i := ⟨k - n, by omega⟩
  have := nth_append_right (List.replicate n x) (List.replicate j y) i
  rw [List.length_replicate] at this
  rw [this, nth_get _ _ (by rw [List.length_replicate]; omega)]
  simp
theorem rep_nth {n k : Nat} {x : Int} (hk : k < n) : nth (List.replicate n x) k = x := by
  rw [nth_get _ _ (by rw [List.length_replicate]; exact hk)]
  simp
end Go.Sg
