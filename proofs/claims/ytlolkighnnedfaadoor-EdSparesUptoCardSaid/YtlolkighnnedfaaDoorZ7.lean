import Derived.Test.YtlolkighnnedfaaDoorZ1
import Derived.Laws.CopyOwn
/- The law of copy into a row of the call's own. -/
set_option linter.unusedVariables false
set_option linter.unusedSimpArgs false
namespace Go.Sg
open Go.RowKit

/-! ### copy -/
theorem wpList_copy_blk {P : Program} {w : World} {ops : Array Oper} {rest : List Oper} {o : Oper} {a : Act} {Q : Exit → Act → World → Prop} (hgd : o.guard = none) (d s : Operand) (dT sT : TypeId)
    (ho : o.op = .call { callee := .builtin .copy, args := #[d, s], argTypes := #[dT, sT] }) (E : TypeId) (hu : P.underlying dT = some (.slice E)) (hsz : (P.info? E).map (·.size) = some 1)
    (da : Option Addr) (g off dn dc : Nat) (ad : Option Addr) (sn sc : Nat) (hd : a.eval d = .slice da dn dc) (hs : a.eval s = .slice ad sn sc) (k : IntKind) (L ys : List Int) (hB : Blk w g k E L) (hy : Cells k w ad ys) (hyn : ys.length = sn)
    (hda : 0 < dn → 0 < sn → da = some ⟨g, off, none⟩) (hfit : off + min sn dn ≤ L.length)
    (h : ∀ w', Blk w' g k E (L.take off ++ (ys.take dn ++ L.drop (off + min sn dn))) → w.grownBy w' (some g) → w'.heap.size = w.heap.size → wpList P ops Q rest (a.put o.dst (.int .i64 ((min sn dn : Nat) : Int))) w') : wpList P ops Q (o :: rest) a w := by
  refine wpList_plain hgd fun K hK => ?_
  by_cases h0 : min sn dn = 0
  · have hrun := run_copy_none (P := P) w dT sT o.type E da ad dn dc sn sc hu hsz h0
    unfold Oper.wp
    simp [execOp, ho, resolve, invoke, builtin, hd, hs, hrun, Result.andThen]
    refine hK _ _ ?_
    have e : L.take off ++ (ys.take dn ++ L.drop (off + min sn dn)) = L := by
      have : ys.take dn = [] := by apply List.eq_nil_of_length_eq_zero; rw [List.length_take, hyn]; omega
      rw [this, h0]; simp
    have := h w (by rw [e]; exact hB) ⟨rfl, rfl, rfl, Nat.le_refl _, fun _ _ _ => rfl⟩ rfl
    rw [h0] at this
    exact this
  · obtain rfl := hda (by omega) (by omega)
    obtain ⟨b, oy, rfl, hc⟩ := hy (by omega)
    have hrun := run_copy_row (P := P) w dT sT o.type E g off dn dc ⟨b, oy, none⟩ sn sc (L.map (Value.int k)).toArray E ((ys.take dn).map (Value.int k)) hu hsz hB
      (by simp [hyn, Nat.min_comm]) (by
        intro j v hv
        have hadd : (⟨b, oy, none⟩ : Addr).add j = ⟨b, oy + j, none⟩ := by unfold Addr.add; split <;> simp_all
        rw [List.getElem?_map, Option.map_eq_some_iff] at hv
        obtain ⟨y, hy1, rfl⟩ := hv
        rw [List.getElem?_take] at hy1
        split at hy1
        · obtain ⟨hj, hje⟩ := List.getElem?_eq_some_iff.1 hy1
          rw [hadd, hc j hj, nth_get _ _ hj, hje]
        · cases hy1) (by simp [hyn, Nat.min_comm]; simpa [Nat.min_comm] using hfit) (by
        intro v hv
        obtain ⟨y, _, rfl⟩ := List.mem_map.1 hv
        rfl)
    unfold Oper.wp
    simp only [execOp, ho, resolve, invoke, builtin, Sem.run_bind, Sem.run_pure, Result.andThen_ok, List.map_toArray, List.map_cons, List.map_nil, hd, hs, hrun]
    have hl : ((ys.take dn).map (Value.int k)).length = min sn dn := by simp [hyn, Nat.min_comm]
    rw [hl]
    refine hK _ _ (h _ ?_ ⟨rfl, rfl, rfl, by simp, fun j _ hk => setRow_other w g j _ (fun ee => hk (by simp [ee]))⟩ (by simp))
    have := setRow_heap w g (L.map (Value.int k)).toArray ((((L.map (Value.int k)).toArray.toList.take off) ++ ((ys.take dn).map (Value.int k) ++ (L.map (Value.int k)).toArray.toList.drop (off + min sn dn))).toArray) E (0, 0) hB
    rw [Blk]
    simpa [List.map_append, List.map_take, List.map_drop] using this

theorem Sl.grown' {k : IntKind} {w w' : World} {a : Option Addr} {cap : Nat} {xs : List Int} {row : Option Nat} (h : Sl k w a cap xs) (hg : w.grownBy w' row) (hne : ∀ b off, a = some ⟨b, off, none⟩ → 0 < xs.length → some b ≠ row) : Sl k w' a cap xs := by
  refine ⟨h.le, h.max, fun hp => ?_⟩
  obtain ⟨b, off, rfl, hc⟩ := h.cells hp
  refine ⟨b, off, rfl, fun j hj => ?_⟩
  rw [World.cell?_of_block (w := w) (hg.block b (World.block_lt_of_cell? w _ (hc j hj)) (hne b off rfl hp))]
  exact hc j hj
/-- What came in lies below what is made now. -/
theorem Sl.apart {k : IntKind} {w : World} {a : Option Addr} {cap : Nat} {xs : List Int} (h : Sl k w a cap xs) {g : Nat} (hg : w.heap.size ≤ g) : ∀ b off, a = some ⟨b, off, none⟩ → 0 < xs.length → b ≠ g := by
  rintro b off rfl hp e
  have := h.cells.lt hp
  omega
theorem Sl.apart' {k : IntKind} {w : World} {a : Option Addr} {cap : Nat} {xs : List Int} (h : Sl k w a cap xs) {g : Nat} (hg : w.heap.size ≤ g) : ∀ b off, a = some ⟨b, off, none⟩ → 0 < xs.length → some b ≠ some g := by
  intro b off ha hp e
  exact h.apart hg b off ha hp (Option.some.inj e)
end Go.Sg
/- s[j:] and s[i:j] of a slice, by their run. -/
set_option linter.unusedVariables false
set_option linter.unusedSimpArgs false
namespace Go.Sg
open Go.RowKit
theorem run_from {P : Program} (w : World) (T E : TypeId) (hu : P.underlying T = some (.slice E)) (hs : (P.info? E).map (·.size) = some 1) (a : Option Addr) (n cap l : Nat) (h1 : l ≤ n) (h2 : n ≤ cap) (L : Int) (hL : L = l) :
    (Instr.sliceAt T (.slice a n cap) (some (.int .i64 L)) none none).run P w = .ok (.slice (if cap - l = 0 then a else a.map (·.add l)) (n - l) (cap - l)) w := by
  subst hL
  cases hq : P.info? E with
  | none => simp [hq] at hs
  | some i =>
    have hz : i.size = 1 := by simpa [hq] using hs
    simp [Instr.sliceAt, Instr.slice, run_underlying hu, Instr.sliceBounds, run_sliceBound, sizeOf, typeInfo, hq, hz, h1, h2]
    have e : cap = l ↔ cap - l = 0 := by omega
    simp only [e]
theorem run_mid {P : Program} (w : World) (T E : TypeId) (hu : P.underlying T = some (.slice E)) (hs : (P.info? E).map (·.size) = some 1) (a : Option Addr) (n cap l h : Nat) (h1 : l ≤ h) (h2 : h ≤ cap) (L H : Int) (hL : L = l) (hH : H = h) :
    (Instr.sliceAt T (.slice a n cap) (some (.int .i64 L)) (some (.int .i64 H)) none).run P w = .ok (.slice (if cap - l = 0 then a else a.map (·.add l)) (h - l) (cap - l)) w := by
  subst hL hH
  cases hq : P.info? E with
  | none => simp [hq] at hs
  | some i =>
    have hz : i.size = 1 := by simpa [hq] using hs
    simp [Instr.sliceAt, Instr.slice, run_underlying hu, Instr.sliceBounds, run_sliceBound, sizeOf, typeInfo, hq, hz, h1, h2]
    have e : cap = l ↔ cap - l = 0 := by omega
    simp only [e]
theorem run_to {P : Program} (w : World) (T E : TypeId) (hu : P.underlying T = some (.slice E)) (hs : (P.info? E).map (·.size) = some 1) (a : Option Addr) (n cap h : Nat) (h1 : h ≤ cap) (H : Int) (hH : H = h) :
    (Instr.sliceAt T (.slice a n cap) none (some (.int .i64 H)) none).run P w = .ok (.slice a h cap) w := by
  subst hH
  cases hq : P.info? E with
  | none => simp [hq] at hs
  | some i =>
    have hz : i.size = 1 := by simpa [hq] using hs
    have e : (if cap = 0 then a else a.map (·.add 0)) = a := by
      split
      · rfl
      · cases a with
        | none => rfl
        | some ad =>
          obtain ⟨b, off, sp⟩ := ad
          cases sp <;> simp [Addr.add]
    simp [Instr.sliceAt, Instr.slice, run_underlying hu, Instr.sliceBounds, run_sliceBound, sizeOf, typeInfo, hq, hz, h1, e]
theorem Cells.drop' {k : IntKind} {w : World} {a : Option Addr} {xs : List Int} (h : Cells k w a xs) (l : Nat) (c : Nat) : Cells k w (if c = 0 then a else a.map (·.add l)) (xs.drop l) ∨ c = 0 := by
  by_cases hc : c = 0
  · exact .inr hc
  · left
    rw [if_neg hc]
    intro hp
    rw [List.length_drop] at hp
    obtain ⟨b, off, rfl, hcc⟩ := h (by omega)
    refine ⟨b, off + l, by simp [Addr.add], fun j hj => ?_⟩
    rw [List.length_drop] at hj
    have := hcc (l + j) (by omega)
    rw [nth_drop, Nat.add_assoc]
    exact this
/-- s[l:]: its numbers, and what the operation gives at every world. -/
theorem Sl.from {P : Program} {T E : TypeId} {k : IntKind} {w : World} {a : Option Addr} {cap : Nat} {xs : List Int} (h : Sl k w a cap xs) (hu : P.underlying T = some (.slice E)) (hs : (P.info? E).map (·.size) = some 1) (l : Nat) (hl : l ≤ xs.length) :
    ∃ ad, Sl k w ad (cap - l) (xs.drop l) ∧ ∀ W : World, (Instr.sliceAt T (.slice a xs.length cap) (some (.int .i64 (l : Int))) none none).run P W = .ok (.slice ad (xs.length - l) (cap - l)) W := by
  have hle := h.le
  have hm := h.max
  refine ⟨_, ⟨by rw [List.length_drop]; omega, by omega, ?_⟩, fun W => run_from W T E hu hs a xs.length cap l hl hle l rfl⟩
  rcases h.cells.drop' l (cap - l) with h1 | h1
  · exact h1
  · intro hp
    rw [List.length_drop] at hp
    omega
/-- Where a part of a slice lies: in the same block. -/
theorem Sl.mid {P : Program} {T E : TypeId} {k : IntKind} {w : World} {a : Option Addr} {cap : Nat} {xs : List Int} (h : Sl k w a cap xs) (hu : P.underlying T = some (.slice E)) (hs : (P.info? E).map (·.size) = some 1) (l m : Nat) (hl : l ≤ m) (hm : m ≤ xs.length) :
    ∃ ad, Sl k w ad (cap - l) ((xs.take m).drop l) ∧ ∀ W : World, (Instr.sliceAt T (.slice a xs.length cap) (some (.int .i64 (l : Int))) (some (.int .i64 (m : Int))) none).run P W = .ok (.slice ad (m - l) (cap - l)) W := by
  have hle := h.le
  have hx := h.max
  refine ⟨_, ⟨by rw [List.length_drop, List.length_take]; omega, by omega, ?_⟩, fun W => run_mid W T E hu hs a xs.length cap l m hl (by omega) l m rfl rfl⟩
  rcases (h.cells.take m).drop' l (cap - l) with h1 | h1
  · exact h1
  · intro hp
    rw [List.length_drop, List.length_take] at hp
    omega
end Go.Sg
/- append to a slice of the call's own: the slice that it began with reads as before, too. -/
set_option linter.unusedVariables false
set_option linter.unusedSimpArgs false
namespace Go.Sg
open Go.RowKit
theorem run_append_keep {P : Program} (w : World) (B : Nat) (t ty e : TypeId) (k : IntKind) (bytes : Nat) (ht : P.underlying t = some (.slice e)) (hi : (P.info? e).map (fun i => (i.zero, i.size, i.bytes)) = some (some (.int k 0), 1, bytes))
    (v : Value) (xs : List Int) (hv : New B k e w v xs) (a : Option Addr) (c : Nat) (ys : List Int) (hy : Cells k w a ys) (hm : xs.length + ys.length ≤ 9223372036854775807) (hbytes : (xs.length + ys.length) * bytes ≤ 140737488355328) (hB : B ≤ w.heap.size) :
    ∃ v' w', (Builtin.append_ #[t, t] ty #[v, .slice a ys.length c]).run P w = .ok v' w' ∧ New B k e w' v' (xs ++ ys) ∧ New B k e w' v xs ∧ w.grownBy w' v.ownBlock ∧ (v'.ownBlock = v.ownBlock ∨ ∃ g, v'.ownBlock = some g ∧ w.heap.size ≤ g) := by
  obtain ⟨i, hi0, hz, hs, hby⟩ := info1 hi
  by_cases h0 : ys.length = 0
  · obtain rfl : ys = [] := List.eq_nil_of_length_eq_zero h0
    refine ⟨v, w, ?_, by simpa using hv, hv, ⟨rfl, rfl, rfl, Nat.le_refl _, fun _ _ _ => rfl⟩, .inl rfl⟩
    have hf : (Builtin.firstCells 1 0 (.slice a 0 c)).run P w = .ok #[] w := by
      cases a with
      | none => simp [Builtin.firstCells]
      | some ad => exact run_firstCells_some w 1 0 ad 0 c [] (by simp) (by simp)
    rcases hv with ⟨rfl, rfl⟩ | ⟨g, cap, cs, rfl, _, _, hnc, _⟩
    · simp [Builtin.append_, run_underlying ht, sizeOf, typeInfo, hi0, hs, Builtin.lenOf, hf]
    · simp [Builtin.append_, run_underlying ht, sizeOf, typeInfo, hi0, hs, Builtin.lenOf, hf, hnc, storeCells]
  · obtain ⟨b, off, rfl, hc⟩ := hy (by omega)
    have hnews : ∀ (j : Nat) (u : Value), (ys.map (Value.int k))[j]? = some u → w.cell? ((⟨b, off, none⟩ : Addr).add j) = some u := by
      intro j u hu
      have hadd : (⟨b, off, none⟩ : Addr).add j = ⟨b, off + j, none⟩ := by unfold Addr.add; split <;> simp_all
      rw [List.getElem?_map, Option.map_eq_some_iff] at hu
      obtain ⟨y, hy1, rfl⟩ := hu
      obtain ⟨hj, hje⟩ := List.getElem?_eq_some_iff.1 hy1
      rw [hadd, hc j hj, nth_get _ _ hj, hje]
    have h1 : ∀ u ∈ ys.map (Value.int k), u.oneCell' = true := by
      intro u hu
      obtain ⟨y, _, rfl⟩ := List.mem_map.1 hu
      rfl
    by_cases hroom : ∃ g cap cs, v = .slice (some ⟨g, 0, none⟩) xs.length cap ∧ w.heap[g]? = some (.cells cs e (0, 0)) ∧ B ≤ g ∧ xs.length + ys.length ≤ cap ∧ cap ≤ cs.size ∧ cap ≤ 9223372036854775807 ∧ cs.toList.take xs.length = xs.map (Value.int k)
    · obtain ⟨g, cap, cs, rfl, hh, hbg, hrm, hcs, hcm, htake⟩ := hroom
      have hr := run_append_room (P := P) w t ty e i ht hi0 g xs.length cap cs hh ⟨b, off, none⟩ ys.length c (ys.map (Value.int k)) (by simp [hs]) hnews h1 hrm (by simp [hs]; omega)
      refine ⟨_, _, hr, .inr ⟨g, cap, _, by simp, hbg, setRow_heap w g cs _ e _ hh, by simpa using hrm, ?_, hcm, ?_⟩, .inr ⟨g, cap, _, rfl, hbg, setRow_heap w g cs _ e _ hh, by omega, ?_, hcm, ?_⟩, ⟨rfl, rfl, rfl, by simp, fun j _ hk => setRow_other w g j _ (fun ee => hk (by simp [Value.ownBlock, ee]))⟩, .inl rfl⟩
      · simp [hs]; omega
      · simp only [hs, Nat.mul_one, List.length_append, List.map_append]
        rw [htake]
        apply List.take_left'
        simp
      · simp [hs]; omega
      · simp only [hs, Nat.mul_one]
        rw [htake, List.append_assoc]
        apply List.take_left'
        simp
    · obtain ⟨v', w', hr, h2, h3, h4⟩ := run_append_new (P := P) w B t ty e k bytes ht hi v xs hv (some ⟨b, off, none⟩) c ys hy hm hbytes hB
      have grow : w.grownBy w' none := by
        rcases hv with ⟨rfl, rfl⟩ | ⟨g, cap, cs, rfl, hbg, hh, hnc, hcs, hcm, htake⟩
        · have : (Value.slice none 0 0).ownBlock = none := rfl
          rw [this] at h3; exact h3
        · have hn : ¬ xs.length + ys.length ≤ cap := fun hr => hroom ⟨g, cap, cs, rfl, hh, hbg, hr, hcs, hcm, htake⟩
          have holds : ∀ (j : Nat) (u : Value), (xs.map (Value.int k))[j]? = some u → w.cell? ((⟨g, 0, none⟩ : Addr).add j) = some u := by
            intro j u hu
            have hadd : (⟨g, 0, none⟩ : Addr).add j = ⟨g, j, none⟩ := by unfold Addr.add; split <;> simp_all
            rw [hadd, cell_of_row w g j cs e (0, 0) hh]
            rw [← htake, List.getElem?_take] at hu
            split at hu
            · simpa using hu
            · cases hu
          have hr2 := run_append_grow (P := P) w t ty e i (.int k 0) ht hi0 hz ⟨g, 0, none⟩ xs.length cap (xs.map (Value.int k)) (by simp [hs]) holds ⟨b, off, none⟩ ys.length c (ys.map (Value.int k)) (by simp [hs]) hnews (by omega) (by omega) (growslice_fits (by omega) (by rw [hby]; exact hbytes))
          rw [hr] at hr2
          simp only [Result.ok.injEq] at hr2
          obtain ⟨_, rfl⟩ := hr2
          exact ⟨rfl, rfl, rfl, by simp, fun j hj _ => Below.heap_alloc w.drew _ j hj⟩
      exact ⟨v', w', hr, h2, hv.kept grow (by cases hb : v.ownBlock <;> simp), h3, h4⟩

theorem wpList_append_keep {P : Program} (w : World) {ops : Array Oper} {rest : List Oper} {o : Oper} {a : Act} {Q : Exit → Act → World → Prop} (hgd : o.guard = none) (s x : Operand) (t : TypeId)
    (ho : o.op = .call { callee := .builtin .append, args := #[s, x], argTypes := #[t, t] }) (B : Nat) (e : TypeId) (k : IntKind) (bytes : Nat) (ht : P.underlying t = some (.slice e))
    (hi : (P.info? e).map (fun i => (i.zero, i.size, i.bytes)) = some (some (.int k 0), 1, bytes)) (v : Value) (xs : List Int) (hs : a.eval s = v) (hv : New B k e w v xs)
    (ad : Option Addr) (c n : Nat) (ys : List Int) (hx : a.eval x = .slice ad n c) (hn : n = ys.length) (hy : Cells k w ad ys) (hm : xs.length + ys.length ≤ 9223372036854775807) (hbytes : (xs.length + ys.length) * bytes ≤ 140737488355328) (hB : B ≤ w.heap.size)
    (h : ∀ v' w', New B k e w' v' (xs ++ ys) → New B k e w' v xs → w.grownBy w' v.ownBlock → (v'.ownBlock = v.ownBlock ∨ ∃ g, v'.ownBlock = some g ∧ w.heap.size ≤ g) → wpList P ops Q rest (a.put o.dst v') w') : wpList P ops Q (o :: rest) a w := by
  subst hn
  refine wpList_plain hgd fun K hK => ?_
  obtain ⟨v', w', hr, h2, h2', h3, h4⟩ := run_append_keep (P := P) w B t o.type e k bytes ht hi v xs hv ad c ys hy hm hbytes hB
  unfold Oper.wp execOp
  simp only [ho, resolve, invoke, builtin, Sem.run_bind, Sem.run_pure, Result.andThen_ok, List.map_toArray, List.map_cons, List.map_nil, hs, hx, hr]
  exact hK _ _ (h v' w' h2 h2' h3 h4)
end Go.Sg
/- Rows of the call's own whose places are slices: how they read, and append. -/
set_option linter.unusedVariables false
set_option linter.unusedSimpArgs false
namespace Go.Sg
open Go.RowKit

/-- A slice of slices in the call's own memory: nil, or at the head of a row from block B on. -/
def NewV (B : Nat) (E : TypeId) (w : World) (v : Value) (vs : List Value) : Prop :=
  (v = .slice none 0 0 ∧ vs = []) ∨
  ∃ g cap cs, v = .slice (some ⟨g, 0, none⟩) vs.length cap ∧ B ≤ g ∧ w.heap[g]? = some (.cells cs E (0, 0)) ∧ vs.length ≤ cap ∧ cap ≤ cs.size ∧ cap ≤ 9223372036854775807 ∧ cs.toList.take vs.length = vs
section
variable {B : Nat} {E : TypeId} {w : World} {v : Value} {vs : List Value}
theorem NewV.nil (B : Nat) (E : TypeId) (w : World) : NewV B E w (.slice none 0 0) [] := .inl ⟨rfl, rfl⟩
theorem NewV.mono {B' : Nat} (h : NewV B E w v vs) (hB : B' ≤ B) : NewV B' E w v vs := by
  rcases h with h | ⟨g, cap, cs, hv, hg, r⟩
  · exact .inl h
  · exact .inr ⟨g, cap, cs, hv, by omega, r⟩
theorem NewV.sl (h : NewV B E w v vs) : ∃ a cap, v = .slice a vs.length cap := by
  rcases h with ⟨rfl, rfl⟩ | ⟨g, cap, cs, hv, _⟩
  · exact ⟨none, 0, rfl⟩
  · exact ⟨_, cap, hv⟩
theorem NewV.max (h : NewV B E w v vs) : vs.length ≤ 9223372036854775807 := by
  rcases h with ⟨rfl, rfl⟩ | ⟨g, cap, cs, hv, _, _, h1, _, h2, _⟩
  · simp
  · omega
theorem NewV.cell {a : Option Addr} {n cap : Nat} (h : NewV B E w (.slice a n cap) vs) (j : Nat) (hj : j < vs.length) : ∃ g, a = some ⟨g, 0, none⟩ ∧ B ≤ g ∧ w.cell? ⟨g, j, none⟩ = some vs[j] := by
  rcases h with ⟨_, rfl⟩ | ⟨g, cp, cs, hv, hg, hh, h1, h2, h3, h4⟩
  · simp at hj
  · simp only [Value.slice.injEq] at hv
    refine ⟨g, hv.1, hg, ?_⟩
    rw [cell_of_row w g j cs E (0, 0) hh]
    have e : cs.toList[j]? = (cs.toList.take vs.length)[j]? := by rw [List.getElem?_take, if_pos hj]
    rw [← Array.getElem?_toList, e, h4]
    simp [hj]
theorem NewV.kept {w' : World} {row : Option Nat} (h : NewV B E w v vs) (hg : w.grownBy w' row) (hne : v.ownBlock = none ∨ v.ownBlock ≠ row) : NewV B E w' v vs := by
  rcases h with h | ⟨g, cap, cs, rfl, hb, hh, r⟩
  · exact .inl h
  · refine .inr ⟨g, cap, cs, rfl, hb, ?_, r⟩
    rw [hg.block g (Array.getElem?_eq_some_iff.1 hh).1 (by simpa [Value.ownBlock] using hne)]
    exact hh
theorem NewV.below {w' : World} {B' : Nat} (h : NewV B E w v vs) (hb : Below B' w w') (hlt : ∀ g, v.ownBlock = some g → g < B') : NewV B E w' v vs := by
  rcases h with h | ⟨g, cap, cs, rfl, hbg, hh, r⟩
  · exact .inl h
  · exact .inr ⟨g, cap, cs, rfl, hbg, (hb.block g (hlt g rfl)).trans hh, r⟩
theorem NewV.lt (h : NewV B E w v vs) : ∀ g, v.ownBlock = some g → B ≤ g ∧ g < w.heap.size := by
  intro g hg
  rcases h with ⟨rfl, _⟩ | ⟨g', cap, cs, rfl, hbg, hh, _⟩
  · simp [Value.ownBlock] at hg
  · simp [Value.ownBlock] at hg
    subst hg
    exact ⟨hbg, (Array.getElem?_eq_some_iff.1 hh).1⟩
theorem NewV.keep {w' : World} (h : NewV B E w v vs) (hb : Below w.heap.size w w') : NewV B E w' v vs := h.below hb fun g hg => (h.lt g hg).2
theorem NewV.alloc (h : NewV B E w v vs) (o : Obj) : NewV B E (w.alloc o) v vs := h.kept (World.grownBy_alloc w o none) (by cases hv : v.ownBlock <;> simp)
end
theorem one_slice {v : Value} (h : ∃ a n c, v = .slice a n c) : v.oneCell' = true := by obtain ⟨a, n, c, rfl⟩ := h; rfl

theorem run_append_newV {P : Program} (w : World) (B : Nat) (t ty e : TypeId) (bytes : Nat) (ht : P.underlying t = some (.slice e)) (hi : (P.info? e).map (fun i => (i.zero, i.size, i.bytes)) = some (some (.slice none 0 0), 1, bytes))
    (v : Value) (vs : List Value) (hv : NewV B e w v vs) (a : Addr) (c : Nat) (u : Value) (hone : ∃ a n c, u = .slice a n c) (hu : w.cell? a = some u) (hm : vs.length + 1 ≤ 9223372036854775807) (hbytes : (vs.length + 1) * bytes ≤ 140737488355328) (hB : B ≤ w.heap.size) :
    ∃ v' w', (Builtin.append_ #[t, t] ty #[v, .slice (some a) 1 c]).run P w = .ok v' w' ∧ NewV B e w' v' (vs ++ [u]) ∧ w.grownBy w' v.ownBlock ∧ (v'.ownBlock = v.ownBlock ∨ ∃ g, v'.ownBlock = some g ∧ w.heap.size ≤ g) := by
  obtain ⟨i, hi0, hz, hs, hby⟩ : ∃ i, P.info? e = some i ∧ i.zero = some (.slice none 0 0) ∧ i.size = 1 ∧ i.bytes = bytes := info_parts hi
  have hnews : ∀ (j : Nat) (x : Value), [u][j]? = some x → w.cell? (a.add j) = some x := by
    intro j x hx
    have hj : j = 0 := by
      have := (List.getElem?_eq_some_iff.1 hx).1
      simp at this; exact this
    subst hj
    have e0 : a.add 0 = a := by
      obtain ⟨b, off, sp⟩ := a
      cases sp <;> simp [Addr.add]
    rw [e0, hu]
    simpa using hx
  have h1 : ∀ x ∈ [u], x.oneCell' = true := by
    intro x hx
    rw [List.mem_singleton] at hx
    rw [hx]; exact one_slice hone
  have grown : ∀ (old : Nat), old < vs.length + 1 → ∀ (row : Option Nat),
      NewV B e (w.drew.alloc (.cells (vs.toArray ++ [u].toArray ++ Builtin.zeroCells (Value.cells (.slice none 0 0)) (grownCap w (vs.length + 1) old e - (vs.length + 1))) e))
        (.slice (some ⟨w.heap.size, 0, none⟩) (vs.length + 1) (grownCap w (vs.length + 1) old e)) (vs ++ [u]) ∧
      w.grownBy (w.drew.alloc (.cells (vs.toArray ++ [u].toArray ++ Builtin.zeroCells (Value.cells (.slice none 0 0)) (grownCap w (vs.length + 1) old e - (vs.length + 1))) e)) row := by
    intro old ho row
    have hge := grownCap_ge w (vs.length + 1) old e
    have hcm : grownCap w (vs.length + 1) old e ≤ maxLen := grownCap_le_maxLen w (vs.length + 1) old e (by unfold maxLen; omega)
    unfold maxLen at hcm
    refine ⟨.inr ⟨w.heap.size, grownCap w (vs.length + 1) old e, _, by simp, hB, Go.heap_alloc_new w.drew _, by simp; omega, ?_, by omega, ?_⟩, ⟨rfl, rfl, rfl, by simp, fun j hj _ => Below.heap_alloc w.drew _ j hj⟩⟩
    · simp only [Array.size_append, List.size_toArray, size_zeroCells]
      rw [show (Value.cells (.slice none 0 0)).size = 1 from rfl]
      simp
      omega
    · simp only [Array.toList_append, List.append_assoc, List.length_append]
      rw [← List.append_assoc]
      apply List.take_left'
      simp
  rcases hv with ⟨rfl, rfl⟩ | ⟨g, cap, cs, rfl, hbg, hh, hnc, hcs, hcm, htake⟩
  · have hr := run_append_nil (P := P) w t ty e i (.slice none 0 0) ht hi0 hz a 1 c [u] (by simp [hs]) hnews (by omega) (by simp at hm; omega) (by rw [hby]; simp at hbytes; omega)
    have hgr := grown 0 (by simp) (Value.ownBlock (.slice none 0 0))
    simp only [List.length_nil, Nat.zero_add, Array.empty_append, List.nil_append] at hgr ⊢
    exact ⟨_, _, hr, hgr.1, hgr.2, .inr ⟨_, rfl, Nat.le_refl _⟩⟩
  · by_cases hroom : vs.length + 1 ≤ cap
    · have hr := run_append_room (P := P) w t ty e i ht hi0 g vs.length cap cs hh a 1 c [u] (by simp [hs]) hnews h1 hroom (by simp [hs]; omega)
      refine ⟨_, _, hr, .inr ⟨g, cap, _, by simp, hbg, setRow_heap w g cs _ e _ hh, by simpa using hroom, ?_, hcm, ?_⟩, ⟨rfl, rfl, rfl, by simp, fun j _ hk => setRow_other w g j _ (fun ee => hk (by simp [Value.ownBlock, ee]))⟩, .inl rfl⟩
      · simp [hs]; omega
      · simp only [hs, Nat.mul_one, List.length_append]
        rw [htake]
        apply List.take_left'
        simp
    · have holds : ∀ (j : Nat) (x : Value), vs[j]? = some x → w.cell? ((⟨g, 0, none⟩ : Addr).add j) = some x := by
        intro j x hx
        have hadd : (⟨g, 0, none⟩ : Addr).add j = ⟨g, j, none⟩ := by unfold Addr.add; split <;> simp_all
        rw [hadd, cell_of_row w g j cs e (0, 0) hh]
        rw [← htake, List.getElem?_take] at hx
        split at hx
        · simpa using hx
        · cases hx
      have hr := run_append_grow (P := P) w t ty e i (.slice none 0 0) ht hi0 hz ⟨g, 0, none⟩ vs.length cap vs (by simp [hs]) holds a 1 c [u] (by simp [hs]) hnews (by omega) (by omega) (growslice_fits (by omega) (by rw [hby]; exact hbytes))
      have hgr := grown cap (by omega) (Value.ownBlock (.slice (some ⟨g, 0, none⟩) vs.length cap))
      exact ⟨_, _, hr, hgr.1, hgr.2, .inr ⟨_, rfl, Nat.le_refl _⟩⟩

theorem wpList_append_newV {P : Program} (w : World) {ops : Array Oper} {rest : List Oper} {o : Oper} {a : Act} {Q : Exit → Act → World → Prop} (hgd : o.guard = none) (s x : Operand) (t : TypeId)
    (ho : o.op = .call { callee := .builtin .append, args := #[s, x], argTypes := #[t, t] }) (B : Nat) (e : TypeId) (bytes : Nat) (ht : P.underlying t = some (.slice e))
    (hi : (P.info? e).map (fun i => (i.zero, i.size, i.bytes)) = some (some (.slice none 0 0), 1, bytes)) (v : Value) (vs : List Value) (hs : a.eval s = v) (hv : NewV B e w v vs)
    (ad : Addr) (c : Nat) (u : Value) (hone : ∃ a n c, u = .slice a n c) (hx : a.eval x = .slice (some ad) 1 c) (hu : w.cell? ad = some u) (hm : vs.length + 1 ≤ 9223372036854775807) (hbytes : (vs.length + 1) * bytes ≤ 140737488355328) (hB : B ≤ w.heap.size)
    (h : ∀ v' w', NewV B e w' v' (vs ++ [u]) → w.grownBy w' v.ownBlock → (v'.ownBlock = v.ownBlock ∨ ∃ g, v'.ownBlock = some g ∧ w.heap.size ≤ g) → wpList P ops Q rest (a.put o.dst v') w') : wpList P ops Q (o :: rest) a w := by
  refine wpList_plain hgd fun K hK => ?_
  obtain ⟨v', w', hr, h2, h3, h4⟩ := run_append_newV (P := P) w B t o.type e bytes ht hi v vs hv ad c u hone hu hm hbytes hB
  unfold Oper.wp execOp
  simp only [ho, resolve, invoke, builtin, Sem.run_bind, Sem.run_pure, Result.andThen_ok, List.map_toArray, List.map_cons, List.map_nil, hs, hx, hr]
  exact hK _ _ (h v' w' h2 h3 h4)
theorem cell_new1 (w : World) (E : TypeId) (u : Value) (z : Nat × Nat) : (w.alloc (.cells #[u] E z)).cell? ⟨w.heap.size, 0, none⟩ = some u := by
  have h : (w.alloc (.cells #[u] E z)).heap[w.heap.size]? = some (.cells #[u] E z) := by
    show (w.heap.push _)[w.heap.size]? = _
    simp
  rw [cell_of_row (w.alloc (.cells #[u] E z)) w.heap.size 0 _ E z h]; rfl
end Go.Sg
/- Rows of the call's own whose places are slices: several are appended at once. (Printed by gen_rowsc.py.) -/
set_option linter.unusedVariables false
set_option linter.unusedSimpArgs false
namespace Go.Sg
open Go.RowKit

theorem run_append_newVs {P : Program} (w : World) (B : Nat) (t ty e : TypeId) (bytes : Nat) (ht : P.underlying t = some (.slice e)) (hi : (P.info? e).map (fun i => (i.zero, i.size, i.bytes)) = some (some (.slice none 0 0), 1, bytes))
    (v : Value) (vs : List Value) (hv : NewV B e w v vs) (a : Addr) (c : Nat) (us : List Value) (hone : ∀ u ∈ us, ∃ a n c, u = Value.slice a n c) (hnews : ∀ (j : Nat) (x : Value), us[j]? = some x → w.cell? (a.add j) = some x) (hp : 0 < us.length) (hm : vs.length + us.length ≤ 9223372036854775807) (hbytes : (vs.length + us.length) * bytes ≤ 140737488355328) (hB : B ≤ w.heap.size) :
    ∃ v' w', (Builtin.append_ #[t, t] ty #[v, .slice (some a) us.length c]).run P w = .ok v' w' ∧ NewV B e w' v' (vs ++ us) ∧ w.grownBy w' v.ownBlock ∧ (v'.ownBlock = v.ownBlock ∨ ∃ g, v'.ownBlock = some g ∧ w.heap.size ≤ g) := by
  obtain ⟨i, hi0, hz, hs, hby⟩ : ∃ i, P.info? e = some i ∧ i.zero = some (.slice none 0 0) ∧ i.size = 1 ∧ i.bytes = bytes := info_parts hi
  have h1 : ∀ x ∈ us, x.oneCell' = true := fun x hx => one_slice (hone x hx)
  have grown : ∀ (old : Nat), old < vs.length + us.length → ∀ (row : Option Nat),
      NewV B e (w.drew.alloc (.cells (vs.toArray ++ us.toArray ++ Builtin.zeroCells (Value.cells (.slice none 0 0)) (grownCap w (vs.length + us.length) old e - (vs.length + us.length))) e))
        (.slice (some ⟨w.heap.size, 0, none⟩) (vs.length + us.length) (grownCap w (vs.length + us.length) old e)) (vs ++ us) ∧
      w.grownBy (w.drew.alloc (.cells (vs.toArray ++ us.toArray ++ Builtin.zeroCells (Value.cells (.slice none 0 0)) (grownCap w (vs.length + us.length) old e - (vs.length + us.length))) e)) row := by
    intro old ho row
    have hge := grownCap_ge w (vs.length + us.length) old e
    have hcm : grownCap w (vs.length + us.length) old e ≤ maxLen := grownCap_le_maxLen w (vs.length + us.length) old e (by unfold maxLen; omega)
    unfold maxLen at hcm
    refine ⟨.inr ⟨w.heap.size, grownCap w (vs.length + us.length) old e, _, by simp, hB, Go.heap_alloc_new w.drew _, by simp; omega, ?_, by omega, ?_⟩, ⟨rfl, rfl, rfl, by simp, fun j hj _ => Below.heap_alloc w.drew _ j hj⟩⟩
    · simp only [Array.size_append, List.size_toArray, size_zeroCells]
      rw [show (Value.cells (.slice none 0 0)).size = 1 from rfl]
      simp
      omega
    · simp only [Array.toList_append, List.append_assoc, List.length_append]
      rw [← List.append_assoc]
      apply List.take_left'
      simp
  rcases hv with ⟨rfl, rfl⟩ | ⟨g, cap, cs, rfl, hbg, hh, hnc, hcs, hcm, htake⟩
  · have hr := run_append_nil (P := P) w t ty e i (.slice none 0 0) ht hi0 hz a us.length c us (by simp [hs]) hnews (by omega) (by simp at hm; omega) (by rw [hby]; simp at hbytes; omega)
    have hgr := grown 0 (by simp; omega) (Value.ownBlock (.slice none 0 0))
    simp only [List.length_nil, Nat.zero_add, Array.empty_append, List.nil_append] at hgr ⊢
    exact ⟨_, _, hr, hgr.1, hgr.2, .inr ⟨_, rfl, Nat.le_refl _⟩⟩
  · by_cases hroom : vs.length + us.length ≤ cap
    · have hr := run_append_room (P := P) w t ty e i ht hi0 g vs.length cap cs hh a us.length c us (by simp [hs]) hnews h1 hroom (by simp [hs]; omega)
      refine ⟨_, _, hr, .inr ⟨g, cap, _, by simp, hbg, setRow_heap w g cs _ e _ hh, by simpa using hroom, ?_, hcm, ?_⟩, ⟨rfl, rfl, rfl, by simp, fun j _ hk => setRow_other w g j _ (fun ee => hk (by simp [Value.ownBlock, ee]))⟩, .inl rfl⟩
      · simp [hs]; omega
      · simp only [hs, Nat.mul_one, List.length_append]
        rw [htake]
        apply List.take_left'
        simp
    · have holds : ∀ (j : Nat) (x : Value), vs[j]? = some x → w.cell? ((⟨g, 0, none⟩ : Addr).add j) = some x := by
        intro j x hx
        have hadd : (⟨g, 0, none⟩ : Addr).add j = ⟨g, j, none⟩ := by unfold Addr.add; split <;> simp_all
        rw [hadd, cell_of_row w g j cs e (0, 0) hh]
        rw [← htake, List.getElem?_take] at hx
        split at hx
        · simpa using hx
        · cases hx
      have hr := run_append_grow (P := P) w t ty e i (.slice none 0 0) ht hi0 hz ⟨g, 0, none⟩ vs.length cap vs (by simp [hs]) holds a us.length c us (by simp [hs]) hnews (by omega) (by omega) (growslice_fits (by omega) (by rw [hby]; exact hbytes))
      have hgr := grown cap (by omega) (Value.ownBlock (.slice (some ⟨g, 0, none⟩) vs.length cap))
      exact ⟨_, _, hr, hgr.1, hgr.2, .inr ⟨_, rfl, Nat.le_refl _⟩⟩

theorem wpList_append_newVs {P : Program} (w : World) {ops : Array Oper} {rest : List Oper} {o : Oper} {a : Act} {Q : Exit → Act → World → Prop} (hgd : o.guard = none) (s x : Operand) (t : TypeId)
    (ho : o.op = .call { callee := .builtin .append, args := #[s, x], argTypes := #[t, t] }) (B : Nat) (e : TypeId) (bytes : Nat) (ht : P.underlying t = some (.slice e))
    (hi : (P.info? e).map (fun i => (i.zero, i.size, i.bytes)) = some (some (.slice none 0 0), 1, bytes)) (v : Value) (vs : List Value) (hs : a.eval s = v) (hv : NewV B e w v vs)
    (ad : Addr) (c : Nat) (us : List Value) (hone : ∀ u ∈ us, ∃ a n c, u = Value.slice a n c) (hx : a.eval x = .slice (some ad) us.length c) (hu : ∀ (j : Nat) (x : Value), us[j]? = some x → w.cell? (ad.add j) = some x) (hp : 0 < us.length) (hm : vs.length + us.length ≤ 9223372036854775807) (hbytes : (vs.length + us.length) * bytes ≤ 140737488355328) (hB : B ≤ w.heap.size)
    (h : ∀ v' w', NewV B e w' v' (vs ++ us) → w.grownBy w' v.ownBlock → (v'.ownBlock = v.ownBlock ∨ ∃ g, v'.ownBlock = some g ∧ w.heap.size ≤ g) → wpList P ops Q rest (a.put o.dst v') w') : wpList P ops Q (o :: rest) a w := by
  refine wpList_plain hgd fun K hK => ?_
  obtain ⟨v', w', hr, h2, h3, h4⟩ := run_append_newVs (P := P) w B t o.type e bytes ht hi v vs hv ad c us hone hu hp hm hbytes hB
  unfold Oper.wp execOp
  simp only [ho, resolve, invoke, builtin, Sem.run_bind, Sem.run_pure, Result.andThen_ok, List.map_toArray, List.map_cons, List.map_nil, hs, hx, hr]
  exact hK _ _ (h v' w' h2 h3 h4)
end Go.Sg
