import Derived.Test.YtmbifokiebjmmaaDoorZ3
import Derived.Laws.StructEq
import Derived.Great.BuildSlice
/- Rows of hashes (32 bytes each): make, append, load, store, cuts. No program in sight. -/
set_option linter.unusedVariables false
set_option linter.unusedSimpArgs false
namespace Go.Sg
open Go.RowKit

def Dig (d : List Int) : Prop := d.length = 32 ∧ U8 d
def dval (d : List Int) : Value := .agg (d.map (Value.int .u8)).toArray
def noDig : List Int := List.replicate 32 0
theorem dig_no : Dig noDig := ⟨rfl, .zeros (by decide) _⟩
theorem flat_len {ds : List (List Int)} (h : ∀ d ∈ ds, Dig d) : ds.flatten.length = 32 * ds.length := by
  induction ds with
  | nil => rfl
  | cons d ds ih =>
    rw [List.flatten_cons, List.length_append, (h d (List.mem_cons_self ..)).1, ih fun x hx => h x (List.mem_cons_of_mem _ hx), List.length_cons]
    omega
theorem flat_take {ds : List (List Int)} (h : ∀ d ∈ ds, Dig d) : ∀ k, (ds.take k).flatten = ds.flatten.take (32 * k) := by
  induction ds with
  | nil => simp
  | cons d ds ih =>
    intro k
    have hd := (h d (List.mem_cons_self ..)).1
    cases k with
    | zero => rfl
    | succ k =>
      rw [List.take_succ_cons, List.flatten_cons, List.flatten_cons, ih fun x hx => h x (List.mem_cons_of_mem _ hx), List.take_append, hd, show d.take (32 * (k + 1)) = d from List.take_of_length_le (by omega), show 32 * (k + 1) - 32 = 32 * k by omega]
theorem flat_drop {ds : List (List Int)} (h : ∀ d ∈ ds, Dig d) : ∀ k, (ds.drop k).flatten = ds.flatten.drop (32 * k) := by
  induction ds with
  | nil => simp
  | cons d ds ih =>
    intro k
    have hd := (h d (List.mem_cons_self ..)).1
    cases k with
    | zero => rfl
    | succ k =>
      rw [List.drop_succ_cons, List.flatten_cons, ih fun x hx => h x (List.mem_cons_of_mem _ hx), List.drop_append, hd, show d.drop (32 * (k + 1)) = [] from List.drop_of_length_le (by omega), List.nil_append, show 32 * (k + 1) - 32 = 32 * k by omega]
theorem flat_at {ds : List (List Int)} (h : ∀ d ∈ ds, Dig d) {i : Nat} (hi : i < ds.length) : (ds.flatten.drop (32 * i)).take 32 = ds[i] := by
  rw [← flat_drop h, List.drop_eq_getElem_cons hi, List.flatten_cons, List.take_append, (h _ (List.getElem_mem hi)).1, List.take_of_length_le (by rw [(h _ (List.getElem_mem hi)).1]; omega)]
  simp
theorem flat_set {ds : List (List Int)} (h : ∀ d ∈ ds, Dig d) {d : List Int} (hd : Dig d) : ∀ {i : Nat}, i < ds.length → (ds.set i d).flatten = ds.flatten.take (32 * i) ++ (d ++ ds.flatten.drop (32 * i + 32)) := by
  induction ds with
  | nil => intro i hi; simp at hi
  | cons e ds ih =>
    intro i hi
    have he := (h e (List.mem_cons_self ..)).1
    cases i with
    | zero =>
      rw [List.set_cons_zero, List.flatten_cons, List.flatten_cons, show 32 * 0 + 32 = e.length by omega, List.drop_left]
      rfl
    | succ i =>
      have hi' : i < ds.length := by simpa using hi
      rw [List.set_cons_succ, List.flatten_cons, List.flatten_cons, ih (fun x hx => h x (List.mem_cons_of_mem _ hx)) hi', List.take_append, List.drop_append, he, show e.take (32 * (i + 1)) = e from List.take_of_length_le (by omega), show e.drop (32 * (i + 1) + 32) = [] from List.drop_of_length_le (by omega), show 32 * (i + 1) - 32 = 32 * i by omega, show 32 * (i + 1) + 32 - 32 = 32 * i + 32 by omega, List.append_assoc, List.nil_append]

/-- A row of hashes that is read. -/
structure SlD (w : World) (a : Option Addr) (cap : Nat) (ds : List (List Int)) : Prop where
  dig : ∀ d ∈ ds, Dig d
  le : ds.length ≤ cap
  max : cap ≤ 9223372036854775807
  cells : Cells .u8 w a ds.flatten
theorem SlD.below {w w' : World} {a : Option Addr} {cap : Nat} {ds : List (List Int)} (h : SlD w a cap ds) (hb : Below w.heap.size w w') : SlD w' a cap ds := ⟨h.dig, h.le, h.max, h.cells.below hb⟩
theorem SlD.nil (w : World) (a : Option Addr) (cap : Nat) (h : cap ≤ 9223372036854775807) : SlD w a cap [] := ⟨by simp, by simp, h, .nil _ _ _⟩
theorem SlD.take {w : World} {a : Option Addr} {cap : Nat} {ds : List (List Int)} (h : SlD w a cap ds) (k : Nat) : SlD w a cap (ds.take k) :=
  ⟨fun d hd => h.dig d (List.mem_of_mem_take hd), Nat.le_trans (List.length_take_le' _ _) h.le, h.max, by rw [flat_take h.dig]; exact h.cells.take _⟩
theorem SlD.drop {w : World} {a : Option Addr} {cap : Nat} {ds : List (List Int)} (h : SlD w a cap ds) (k : Nat) : SlD w (if cap = k then a else a.map (·.add (k * 32))) (cap - k) (ds.drop k) := by
  refine ⟨fun d hd => h.dig d (List.mem_of_mem_drop hd), by rw [List.length_drop]; have := h.le; omega, by have := h.max; omega, ?_⟩
  rw [flat_drop h.dig]
  intro hp
  rw [List.length_drop, flat_len h.dig] at hp
  obtain ⟨b, off, ha, hc⟩ := h.cells (by rw [flat_len h.dig]; omega)
  rw [if_neg (by have := h.le; omega), ha, Option.map_some, Addr.add_mid]
  refine ⟨b, off + k * 32, rfl, fun j hj => ?_⟩
  rw [List.length_drop, flat_len h.dig] at hj
  rw [nth_drop, show off + k * 32 + j = off + (32 * k + j) by omega, hc _ (by rw [flat_len h.dig]; omega)]
theorem SlD.range {w : World} {a : Option Addr} {cap : Nat} {ds : List (List Int)} (h : SlD w a cap ds) {i : Nat} (hi : i < ds.length) : ∃ b off, a = some ⟨b, off, none⟩ ∧ w.rangeAt b (off + i * 32) (ds[i].map (Value.int .u8)) := by
  have hl := flat_len h.dig
  have hd := (h.dig _ (List.getElem_mem hi)).1
  obtain ⟨b, off, ha, hc⟩ := h.cells (by omega)
  refine ⟨b, off, ha, fun j v hv => ?_⟩
  rw [List.getElem?_map, Option.map_eq_some_iff] at hv
  obtain ⟨x, hx, rfl⟩ := hv
  obtain ⟨hj, rfl⟩ := List.getElem?_eq_some_iff.1 hx
  rw [hd] at hj
  rw [show off + i * 32 + j = off + (32 * i + j) by omega, hc _ (by omega)]
  congr 2
  rw [← nth_get _ _ (by rw [hd]; exact hj), ← flat_at h.dig hi, nth_take _ _ _ hj, nth_drop]

/-- A row of hashes of the call's own. -/
def NewD (B : Nat) (E : TypeId) (w : World) (v : Value) (ds : List (List Int)) : Prop :=
  (∀ d ∈ ds, Dig d) ∧ ((v = .slice none 0 0 ∧ ds = []) ∨ ∃ g cap cs, v = .slice (some ⟨g, 0, none⟩) ds.length cap ∧ B ≤ g ∧ w.heap[g]? = some (.cells cs E (0, 0)) ∧ ds.length ≤ cap ∧ cap * 32 ≤ cs.size ∧ cap ≤ 9223372036854775807 ∧ cs.toList.take (32 * ds.length) = ds.flatten.map (Value.int .u8))
section
variable {B : Nat} {E : TypeId} {w : World} {v : Value} {ds : List (List Int)}
theorem NewD.dig (h : NewD B E w v ds) : ∀ d ∈ ds, Dig d := h.1
theorem NewD.nil (B : Nat) (E : TypeId) (w : World) : NewD B E w (.slice none 0 0) [] := ⟨by simp, .inl ⟨rfl, rfl⟩⟩
theorem NewD.mono {B' : Nat} (h : NewD B E w v ds) (hB : B' ≤ B) : NewD B' E w v ds := by
  obtain ⟨hd, h | ⟨g, cap, cs, h1, h2, h3⟩⟩ := h
  · exact ⟨hd, .inl h⟩
  · exact ⟨hd, .inr ⟨g, cap, cs, h1, by omega, h3⟩⟩
theorem NewD.sl (h : NewD B E w v ds) : ∃ a cap, v = .slice a ds.length cap ∧ SlD w a cap ds := by
  obtain ⟨hd, ⟨rfl, rfl⟩ | ⟨g, cap, cs, rfl, hg, hh, h1, h2, h3, h4⟩⟩ := h
  · exact ⟨none, 0, rfl, .nil _ _ _ (by omega)⟩
  · refine ⟨_, cap, rfl, hd, h1, h3, fun hp => ⟨g, 0, rfl, fun j hj => ?_⟩⟩
    have hl := flat_len hd
    rw [Nat.zero_add, cell_of_row w g j cs E (0, 0) hh]
    have e : cs.toList[j]? = (cs.toList.take (32 * ds.length))[j]? := by rw [List.getElem?_take, if_pos (by omega)]
    rw [← Array.getElem?_toList, e, h4, List.getElem?_map, List.getElem?_eq_getElem hj, nth_get _ _ hj]
    rfl
theorem NewD.kept {w' : World} {row : Option Nat} (h : NewD B E w v ds) (hg : w.grownBy w' row) (hne : v.ownBlock = none ∨ v.ownBlock ≠ row) : NewD B E w' v ds := by
  obtain ⟨hd, h | ⟨g, cap, cs, rfl, hbg, hh, h1⟩⟩ := h
  · exact ⟨hd, .inl h⟩
  · refine ⟨hd, .inr ⟨g, cap, cs, rfl, hbg, (hg.block g (Array.getElem?_eq_some_iff.1 hh).1 ?_).trans hh, h1⟩⟩
    rcases hne with h0 | h0
    · simp [Value.ownBlock] at h0
    · intro e; exact h0 (by simp [Value.ownBlock, e])
theorem NewD.lt (h : NewD B E w v ds) : ∀ g, v.ownBlock = some g → B ≤ g ∧ g < w.heap.size := by
  intro q hq
  obtain ⟨hd, ⟨rfl, rfl⟩ | ⟨g, cap, cs, rfl, hbg, hh, h1⟩⟩ := h
  · simp [Value.ownBlock] at hq
  · simp only [Value.ownBlock, Option.some.injEq] at hq
    subst hq
    exact ⟨hbg, (Array.getElem?_eq_some_iff.1 hh).1⟩
theorem NewD.keep {w' : World} (h : NewD B E w v ds) (hb : Below w.heap.size w w') : NewD B E w' v ds := by
  obtain ⟨hd, h | ⟨g, cap, cs, rfl, hbg, hh, h1⟩⟩ := h
  · exact ⟨hd, .inl h⟩
  · exact ⟨hd, .inr ⟨g, cap, cs, rfl, hbg, (hb.block g (Array.getElem?_eq_some_iff.1 hh).1).trans hh, h1⟩⟩
theorem NewD.alloc (h : NewD B E w v ds) (o : Obj) : NewD B E (w.alloc o) v ds := h.keep ((Below.refl _ _).alloc (Nat.le_refl _) o)
/-- Another block than this row has another kind of cells. -/
theorem NewD.heap {a : Option Addr} {n cap : Nat} (h : NewD B E w (.slice a n cap) ds) (hp : 0 < ds.length) : ∃ g cs, a = some ⟨g, 0, none⟩ ∧ B ≤ g ∧ w.heap[g]? = some (.cells cs E (0, 0)) ∧ ds.length ≤ cap ∧ cap * 32 ≤ cs.size ∧ cs.toList.take (32 * ds.length) = ds.flatten.map (Value.int .u8) := by
  obtain ⟨hd, ⟨h0, rfl⟩ | ⟨g, cap', cs, h0, hbg, hh, h1, h2, h3, h4⟩⟩ := h
  · simp at hp
  · simp only [Value.slice.injEq] at h0
    obtain ⟨rfl, rfl, rfl⟩ := h0
    exact ⟨g, cs, rfl, hbg, hh, h1, h2, h4⟩
end

/-! ### cuts -/
theorem run_toD {P : Program} (w : World) (T E : TypeId) (hu : P.underlying T = some (.slice E)) (hs : (P.info? E).map (·.size) = some 32) (a : Option Addr) (n cap h : Nat) (h1 : h ≤ cap) (H : Int) (hH : H = h) :
    (Instr.sliceAt T (.slice a n cap) none (some (.int .i64 H)) none).run P w = .ok (.slice a h cap) w := by
  subst hH
  cases hq : P.info? E with
  | none => simp [hq] at hs
  | some i =>
    have hz : i.size = 32 := by simpa [hq] using hs
    have e : (if cap = 0 then a else a.map (·.add 0)) = a := by
      split
      · rfl
      · cases a with
        | none => rfl
        | some ad =>
          obtain ⟨b, off, sp⟩ := ad
          cases sp <;> simp [Addr.add]
    simp [Instr.sliceAt, Instr.slice, run_underlying hu, Instr.sliceBounds, run_sliceBound, sizeOf, typeInfo, hq, hz, h1]
    intro hc
    simpa [hc] using e
theorem run_fromD {P : Program} (w : World) (T E : TypeId) (hu : P.underlying T = some (.slice E)) (hs : (P.info? E).map (·.size) = some 32) (a : Option Addr) (n cap l : Nat) (h1 : l ≤ n) (L : Int) (hL : L = l) :
    (Instr.sliceAt T (.slice a n cap) (some (.int .i64 L)) none none).run P w = .ok (.slice (if cap = l then a else a.map (·.add (l * 32))) (n - l) (cap - l)) w := by
  subst hL
  cases hq : P.info? E with
  | none => simp [hq] at hs
  | some i =>
    have hz : i.size = 32 := by simpa [hq] using hs
    simp [Instr.sliceAt, Instr.slice, run_underlying hu, Instr.sliceBounds, run_sliceBound, sizeOf, typeInfo, hq, hz, h1]
/-- A list of 32 bytes as an array's address. -/
theorem run_array {P : Program} (w : World) (T E : TypeId) (hu : P.underlying T = some (.array 32 E)) (a : Option Addr) (n cap : Nat) (h : 32 ≤ n) : (Instr.arrayAt T (.slice a n cap)).run P w = .ok (.pointer a) w := by
  simp [Instr.arrayAt, run_underlying hu, show ¬ n < 32 by omega]
theorem Sl.dig {w : World} {a : Option Addr} {cap : Nat} {d : List Int} (h : Sl .u8 w a cap d) (hd : Dig d) : ∃ b off, a = some ⟨b, off, none⟩ ∧ w.rangeAt b off (d.map (Value.int .u8)) := by
  obtain ⟨b, off, ha, hc⟩ := h.cells (by rw [hd.1]; omega)
  refine ⟨b, off, ha, fun j v hv => ?_⟩
  rw [List.getElem?_map, Option.map_eq_some_iff] at hv
  obtain ⟨x, hx, rfl⟩ := hv
  obtain ⟨hj, rfl⟩ := List.getElem?_eq_some_iff.1 hx
  rw [hc j hj, nth_get _ _ hj]
theorem Rw.dsl {w : World} {g : Nat} {E : TypeId} {d : List Int} (h : Rw w g E (d.map (Value.int .u8))) (hd : Dig d) : Sl .u8 w (some ⟨g, 0, none⟩) 32 d :=
  ⟨by rw [hd.1]; omega, by omega, fun _ => ⟨g, 0, rfl, fun j hj => by
    rw [Nat.zero_add]
    refine h.cell j ?_
    rw [List.getElem?_map, List.getElem?_eq_getElem hj, nth_get _ _ hj]
    rfl⟩⟩

/-! ### one more -/
theorem run_append_newD {P : Program} (w : World) (B : Nat) (t ty e : TypeId) (z : Value) (hzc : z.cells.size = 32) (ht : P.underlying t = some (.slice e)) (hi : (P.info? e).map (fun i => (i.zero, i.size, i.bytes)) = some (some z, 32, 32))
    (v : Value) (ds : List (List Int)) (hv : NewD B e w v ds) (a : Addr) (d : List Int) (hd : Dig d) (hnews : ∀ (j : Nat) (x : Value), (d.map (Value.int .u8))[j]? = some x → w.cell? (a.add j) = some x) (hm : (ds.length + 1) * 32 ≤ 140737488355328) (hB : B ≤ w.heap.size) :
    ∃ v' w', (Builtin.append_ #[t, t] ty #[v, .slice (some a) 1 1]).run P w = .ok v' w' ∧ NewD B e w' v' (ds ++ [d]) ∧ w.grownBy w' v.ownBlock ∧ (v'.ownBlock = v.ownBlock ∨ ∃ g, v'.ownBlock = some g ∧ w.heap.size ≤ g) := by
  obtain ⟨i, hi0, hz, hs, hby⟩ : ∃ i, P.info? e = some i ∧ i.zero = some z ∧ i.size = 32 ∧ i.bytes = 32 := info_parts hi
  obtain ⟨hds, hv⟩ := hv
  have hds' : ∀ x ∈ ds ++ [d], Dig x := fun x hx => by
    rcases List.mem_append.1 hx with h | h
    · exact hds x h
    · simp at h; exact h ▸ hd
  have hfl := flat_len hds
  have hfl' : (ds ++ [d]).flatten = ds.flatten ++ d := by simp
  have h1 : ∀ x ∈ d.map (Value.int .u8), x.oneCell' = true := fun x hx => by
    obtain ⟨y, _, rfl⟩ := List.mem_map.1 hx
    rfl
  have hlen : (d.map (Value.int .u8)).length = 1 * i.size := by rw [List.length_map, hd.1, hs]
  have grown : ∀ (old : Nat), old < ds.length + 1 → ∀ (row : Option Nat),
      NewD B e (w.drew.alloc (.cells ((ds.flatten.map (Value.int .u8)).toArray ++ (d.map (Value.int .u8)).toArray ++ Builtin.zeroCells z.cells (grownCap w (ds.length + 1) old e - (ds.length + 1))) e))
        (.slice (some ⟨w.heap.size, 0, none⟩) (ds.length + 1) (grownCap w (ds.length + 1) old e)) (ds ++ [d]) ∧
      w.grownBy (w.drew.alloc (.cells ((ds.flatten.map (Value.int .u8)).toArray ++ (d.map (Value.int .u8)).toArray ++ Builtin.zeroCells z.cells (grownCap w (ds.length + 1) old e - (ds.length + 1))) e)) row := by
    intro old ho row
    have hge := grownCap_ge w (ds.length + 1) old e
    have hcm : grownCap w (ds.length + 1) old e ≤ maxLen := grownCap_le_maxLen w (ds.length + 1) old e (by unfold maxLen; omega)
    unfold maxLen at hcm
    refine ⟨⟨hds', .inr ⟨w.heap.size, grownCap w (ds.length + 1) old e, _, by simp, hB, Go.heap_alloc_new w.drew _, by simp; omega, ?_, by omega, ?_⟩⟩, ⟨rfl, rfl, rfl, by simp, fun j hj _ => Below.heap_alloc w.drew _ j hj⟩⟩
    · simp only [Array.size_append, List.size_toArray, size_zeroCells, List.length_map, hfl, hd.1, hzc]
      omega
    · simp only [Array.toList_append, List.length_append, List.length_singleton, hfl', List.map_append]
      apply List.take_left'
      simp only [List.length_append, List.length_map, hfl, hd.1]
      omega
  rcases hv with ⟨rfl, rfl⟩ | ⟨g, cap, cs, rfl, hbg, hh, hnc, hcs, hcm, htake⟩
  · have hr := run_append_nil (P := P) w t ty e i z ht hi0 hz a 1 1 (d.map (Value.int .u8)) hlen hnews (by omega) (by omega) (by rw [hby]; omega)
    have hgr := grown 0 (by simp) (Value.ownBlock (.slice none 0 0))
    simp only [List.length_nil, Nat.zero_add, List.flatten_nil, List.map_nil, Array.empty_append, List.nil_append] at hgr ⊢
    exact ⟨_, _, hr, hgr.1, hgr.2, .inr ⟨_, rfl, Nat.le_refl _⟩⟩
  · by_cases hroom : ds.length + 1 ≤ cap
    · have hr := run_append_room (P := P) w t ty e i ht hi0 g ds.length cap cs hh a 1 1 (d.map (Value.int .u8)) hlen hnews h1 hroom (by rw [hs, List.length_map, hd.1]; omega)
      refine ⟨_, _, hr, ⟨hds', .inr ⟨g, cap, _, by simp, hbg, setRow_heap w g cs _ e _ hh, by simpa using hroom, ?_, hcm, ?_⟩⟩, ⟨rfl, rfl, rfl, by simp, fun j _ hk => setRow_other w g j _ (fun ee => hk (by simp [Value.ownBlock, ee]))⟩, .inl rfl⟩
      · simp [hs, hd.1]; omega
      · simp only [hs, List.length_append, List.length_singleton, hfl', List.map_append]
        rw [show ds.length * 32 = 32 * ds.length by omega, htake]
        apply List.take_left'
        simp only [List.length_append, List.length_map, hfl, hd.1]
        omega
    · have holds : ∀ (j : Nat) (x : Value), (ds.flatten.map (Value.int .u8))[j]? = some x → w.cell? ((⟨g, 0, none⟩ : Addr).add j) = some x := by
        intro j x hx
        have hadd : (⟨g, 0, none⟩ : Addr).add j = ⟨g, j, none⟩ := by unfold Addr.add; split <;> simp_all
        rw [hadd, cell_of_row w g j cs e (0, 0) hh]
        rw [← htake, List.getElem?_take] at hx
        split at hx
        · simpa using hx
        · cases hx
      have hr := run_append_grow (P := P) w t ty e i z ht hi0 hz ⟨g, 0, none⟩ ds.length cap (ds.flatten.map (Value.int .u8)) (by rw [List.length_map, hfl, hs]; omega) holds a 1 1 (d.map (Value.int .u8)) hlen hnews (by omega) (by omega) (growslice_fits (by omega) (by rw [hby]; exact hm))
      have hgr := grown cap (by omega) (Value.ownBlock (.slice (some ⟨g, 0, none⟩) ds.length cap))
      exact ⟨_, _, hr, hgr.1, hgr.2, .inr ⟨_, rfl, Nat.le_refl _⟩⟩

theorem wpList_append_newD {P : Program} (w : World) {ops : Array Oper} {rest : List Oper} {o : Oper} {a : Act} {Q : Exit → Act → World → Prop} (hgd : o.guard = none) (s x : Operand) (t : TypeId)
    (ho : o.op = .call { callee := .builtin .append, args := #[s, x], argTypes := #[t, t] }) (B : Nat) (e : TypeId) (z : Value) (hzc : z.cells.size = 32) (ht : P.underlying t = some (.slice e))
    (hi : (P.info? e).map (fun i => (i.zero, i.size, i.bytes)) = some (some z, 32, 32)) (v : Value) (ds : List (List Int)) (hs : a.eval s = v) (hv : NewD B e w v ds)
    (g : Nat) (d : List Int) (hd : Dig d) (hx : a.eval x = .slice (some ⟨g, 0, none⟩) 1 1) (hu : Rw w g e (d.map (Value.int .u8))) (hm : (ds.length + 1) * 32 ≤ 140737488355328) (hB : B ≤ w.heap.size)
    (h : ∀ v' w', NewD B e w' v' (ds ++ [d]) → w.grownBy w' v.ownBlock → (v'.ownBlock = v.ownBlock ∨ ∃ g, v'.ownBlock = some g ∧ w.heap.size ≤ g) → wpList P ops Q rest (a.put o.dst v') w') : wpList P ops Q (o :: rest) a w := by
  refine wpList_plain hgd fun K hK => ?_
  obtain ⟨v', w', hr, h2, h3, h4⟩ := run_append_newD (P := P) w B t o.type e z hzc ht hi v ds hv ⟨g, 0, none⟩ d hd (fun j x hx => by
    have hadd : (⟨g, 0, none⟩ : Addr).add j = ⟨g, j, none⟩ := by unfold Addr.add; split <;> simp_all
    rw [hadd]
    exact hu.cell j hx) hm hB
  unfold Oper.wp execOp
  simp only [ho, resolve, invoke, builtin, Sem.run_bind, Sem.run_pure, Result.andThen_ok, List.map_toArray, List.map_cons, List.map_nil, hs, hx, hr]
  exact hK _ _ (h v' w' h2 h3 h4)
end Go.Sg
