import Derived.Test.YtlolkighnnedfaaDoorZ35
import Derived.Test.YtlolkighnnedfaaDoorCards
import Derived.Test.YtlolkighnnedfaaDoorTie
import Derived.Test.YtlolkighnnedfaaDoorZ23
import Derived.Test.YtlolkighnnedfaaDoorZ29
import Derived.LaidSub
import Derived.Deep.DeepHandedRow
import Derived.Lib.LaidTab
/- What a row's list of layer 13's tables gives, and a world that holds them. -/
set_option linter.unusedVariables false
set_option linter.unusedSimpArgs false
namespace Go.Proofs.YtlolkighnnedfaaDoor
open Go.RowKit Go.Sg
theorem tab_ed {l : List (String × DataW Unit)} {W : World} {name : String} {g : Nat} (hL : laidMetH Tryd.prog l W) (L : List Int) (hl : L.length = 8)
    (hf : l.filter (fun x => x.1 == name) = [(name, Lib.tabData .u32 L)]) (hg : Tryd.prog.globalNamed name = some g) (hty : (Tryd.prog.globals[g]?).map (·.type) = some 95) : TabAt W g L := by
  have h := hL.filter (fun x => x.1 == name)
  rw [hf] at h
  have h' : Lib.TabIs Tryd.prog W name .u32 L := Lib.tabIs_of_head (rest := []) hg hty Tryd.underlying95 Tryd.underlying36 (by kernel_rfl) (by kernel_rfl) h
  refine ⟨hl, fun j v hv => ?_⟩
  obtain ⟨hj, hje⟩ := List.getElem?_eq_some_iff.1 hv
  rw [List.length_map] at hj
  have hc := h'.cell hg j hj
  rw [Nat.zero_add, hc, ← hje]
  simp [hj]
theorem cells_of_nest {H : Type} {enc : TypeId × Value → H} {P : Program} {w : World} {base : Nat} {sp : Nat → Bool} {held : Bool} {fuel : Nat} {t te e : TypeId} {k : IntKind} {cs : List Value} {L M : List Int} {p : List MemPlace}
    (ht : P.underlying t = some (.array 2 te)) (hte : P.underlying te = some (.array 8 e)) (he : P.underlying e = some (.int k)) (hce : P.cellsOf e = 1) (hcte : P.cellsOf te = 8) (hct : P.cellsOf t = 16)
    (h : DataW.trod enc P w base sp held fuel t cs = some (.agg [Lib.tabData k L, Lib.tabData k M], p)) : cs = (L ++ M).map fun z => Value.int k z := by
  cases fuel with
  | zero => simp [DataW.trod] at h
  | succ fuel =>
    simp only [DataW.trod, ht, hcte, hct] at h
    split at h
    · rename_i hl
      obtain ⟨xs, hm, hx⟩ := Option.map_eq_some_iff.1 h
      have hxs : xs.map (·.1) = [Lib.tabData k L, Lib.tabData k M] := by
        have := congrArg Prod.fst hx
        simpa using this
      obtain ⟨b0, hb0, hf0⟩ := Lib.mapM_at hm 0 0 (by simp)
      obtain ⟨b1, hb1, hf1⟩ := Lib.mapM_at hm 1 1 (by simp)
      have e0 : b0.1 = Lib.tabData k L := by
        have h2 : (xs.map (·.1))[0]? = some b0.1 := by simp [hb0]
        rw [hxs] at h2
        simpa using h2.symm
      have e1 : b1.1 = Lib.tabData k M := by
        have h2 : (xs.map (·.1))[1]? = some b1.1 := by simp [hb1]
        rw [hxs] at h2
        simpa using h2.symm
      have c0 := Lib.cells_of_tab hte he hce hcte (p := b0.2) (zs := L) (hf0.trans (by rw [← e0]))
      have c1 := Lib.cells_of_tab hte he hce hcte (p := b1.2) (zs := M) (hf1.trans (by rw [← e1]))
      rw [List.map_append, ← c0, ← c1]
      simp at hl ⊢
      rw [show (cs.drop 8).take 8 = cs.drop 8 by rw [List.take_of_length_le (by rw [List.length_drop]; omega)], List.take_append_drop]
    · cases h
theorem base_of {l : List (String × DataW Unit)} {W : World} (hL : laidMetH Tryd.prog l W)
    (hf : l.filter (fun x => x.1 == "signet/ed.baseLimbs") = [("signet/ed.baseLimbs", .agg [Lib.tabData .u32 limbX, Lib.tabData .u32 limbY])]) : BaseT W 1 := by
  have h := hL.filter (fun x => x.1 == "signet/ed.baseLimbs")
  rw [hf] at h
  have hg : Tryd.prog.globalNamed "signet/ed.baseLimbs" = some 1 := by kernel_rfl
  have hv : W.var? Tryd.prog "signet/ed.baseLimbs" = some ((limbX ++ limbY).map fun z => Value.int .u32 z).toArray := by
    obtain ⟨ps, ⟨g', t', cs, fuel, p, q, hg', ht', hvar, hd, _, _⟩, _⟩ := h
    obtain rfl := Option.some.inj (hg.symm.trans hg')
    obtain rfl := Option.some.inj ((show (Tryd.prog.globals[1]?).map (·.type) = some 97 by kernel_rfl).symm.trans ht')
    rw [hvar, ← cells_of_nest Tryd.underlying97 Tryd.underlying95 Tryd.underlying36 (by kernel_rfl) (by kernel_rfl) (by kernel_rfl) hd]
  have hc := fun i => World.var?_cell hg hv i
  refine ⟨⟨rfl, fun j v hj => ?_⟩, fun j v hj => ?_⟩
  · obtain ⟨hl, he⟩ := List.getElem?_eq_some_iff.1 hj
    rw [List.length_map] at hl
    have := hc j
    rw [Nat.zero_add, this, ← he]
    simp only [List.map_append, List.getElem?_toArray]
    rw [List.getElem?_append_left (by rw [List.length_map]; exact hl)]
    simp [hl]
  · obtain ⟨hl, he⟩ := List.getElem?_eq_some_iff.1 hj
    rw [List.length_map] at hl
    have := hc (8 + j)
    rw [this, ← he]
    have e8 : limbX.length = 8 := rfl
    simp only [List.map_append, List.getElem?_toArray]
    rw [List.getElem?_append_right (by rw [List.length_map, e8]; omega), List.length_map, e8, Nat.add_sub_cancel_left]
    simp [hl]
/-- Numbers laid into a row of noughts. -/
def layNums (L : List Int) : Obj → Obj
  | .cells _ t frozen => .cells (L.map (Value.int .u32)).toArray t frozen
  | o => o
def layEd (h : Array Obj) : Array Obj := ((((h.modify 0 (layNums limbP)).modify 2 (layNums limbL)).modify 3 (layNums limbD)).modify 4 (layNums limbI)).modify 1 (layNums (limbX ++ limbY))
def layRow {m : Nat} (k : IntKind) (L : List (BitVec m)) : Obj → Obj
  | .cells _ t frozen => .cells (L.map fun v => Value.int k (wi v)).toArray t frozen
  | o => o
def laySha (h : Array Obj) : Array Obj := ((((h.modify 5 (layRow .u32 start256.list)).modify 6 (layRow .u64 start384.list)).modify 7 (layRow .u64 start512.list)).modify 9 (layRow .u32 K256)).modify 10 (layRow .u64 K512)
def layRef (h : Array Obj) : Array Obj := h
/-- A world that holds all tables. -/
noncomputable def laidWorldE (os : Os) : World := { World.holding Tryd.prog os ⟨#[], #[], []⟩ with heap := layRef (laySha (layEd (World.holding Tryd.prog os ⟨#[], #[], []⟩).heap)) }
end Go.Proofs.YtlolkighnnedfaaDoor
