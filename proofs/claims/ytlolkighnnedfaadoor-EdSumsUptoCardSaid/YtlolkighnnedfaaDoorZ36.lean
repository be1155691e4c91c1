import Derived.Test.YtlolkighnnedfaaDoorZ35
import Derived.Test.YtlolkighnnedfaaDoorCards
import Derived.Test.YtlolkighnnedfaaDoorTie
import Derived.Test.YtlolkighnnedfaaDoorZ23
import Derived.Test.YtlolkighnnedfaaDoorZ29
import Derived.LaidSub
import Derived.Deep.DeepHandedRow
import Derived.Lib.LaidTab
/- What a row's list of layer 13's tables gives, and a world that holds them. -/
set_option linter.unusedVariables false
set_option linter.unusedSimpArgs false
namespace Go.Proofs.YtlolkighnnedfaaDoor
open Go.RowKit Go.Sg
theorem tab_ed {l : List (String × DataW Unit)} {W : World} {name : String} {g : Nat} (hL : laidMetH Tryd.prog l W) (L : List Int) (hl : L.length = 8)
    (hf : l.filter (fun x => x.1 == name) = [(name, Lib.tabData .u32 L)]) (hg : Tryd.prog.globalNamed name = some g) (hty : (Tryd.prog.globals[g]?).map (·.type) = some 95) : TabAt W g L := by
  have h := hL.filter (fun x => x.1 == name)
  rw [hf] at h
  have h' : Lib.TabIs Tryd.prog W name .u32 L := Lib.tabIs_of_head (rest := []) hg hty Tryd.underlying95 Tryd.underlying36 (by kernel_rfl) (by kernel_rfl) h
  refine ⟨hl, fun j v hv => ?_⟩
  obtain ⟨hj, hje⟩ := List.getElem?_eq_some_iff.1 hv
  rw [List.length_map] at hj
  have hc := h'.cell hg j hj
  rw [Nat.zero_add, hc, ← hje]
  simp [hj]
/-- Numbers laid into a row of noughts. -/
def layNums (L : List Int) : Obj → Obj
  | .cells _ t frozen => .cells (L.map (Value.int .u32)).toArray t frozen
  | o => o
def layEd (h : Array Obj) : Array Obj := ((((h.modify 0 (layNums limbP)).modify 2 (layNums limbL)).modify 3 (layNums limbD)).modify 4 (layNums limbI)).modify 1 (layNums (limbX ++ limbY))
def layRow {m : Nat} (k : IntKind) (L : List (BitVec m)) : Obj → Obj
  | .cells _ t frozen => .cells (L.map fun v => Value.int k (wi v)).toArray t frozen
  | o => o
def laySha (h : Array Obj) : Array Obj := ((((h.modify 5 (layRow .u32 start256.list)).modify 6 (layRow .u64 start384.list)).modify 7 (layRow .u64 start512.list)).modify 9 (layRow .u32 K256)).modify 10 (layRow .u64 K512)
def layRef (h : Array Obj) : Array Obj := h
/-- A world that holds all tables. -/
noncomputable def laidWorldE (os : Os) : World := { World.holding Tryd.prog os ⟨#[], #[], []⟩ with heap := layRef (laySha (layEd (World.holding Tryd.prog os ⟨#[], #[], []⟩).heap)) }
end Go.Proofs.YtlolkighnnedfaaDoor
