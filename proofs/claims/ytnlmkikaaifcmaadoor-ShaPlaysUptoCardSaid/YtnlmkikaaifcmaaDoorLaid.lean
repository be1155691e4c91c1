/- What a row's list of tables gives, and a world that holds them. -/
import Derived.Test.YtnlmkikaaifcmaaDoorOpen
import Derived.Test.YtnlmkikaaifcmaaDoorCards
import Derived.Test.YtnlmkikaaifcmaaDoorTie
import Derived.Test.YtnlmkikaaifcmaaDoorShaJ
import Derived.LaidSub
import Derived.Deep.DeepHandedRow
import Derived.Lib.LaidTab
set_option linter.unusedVariables false
set_option linter.unusedSimpArgs false
namespace Go.Proofs.YtnlmkikaaifcmaaDoor
open Go.RowKit Go.Sg

theorem getD_wi {m : Nat} (l : List (BitVec m)) (i : Nat) : (l.map wi).getD i 0 = wi (l.getD i 0) := by
  simp only [List.getD_eq_getElem?_getD, List.getElem?_map]
  cases l[i]? <;> simp [wi]
/-- One table of the row's list. -/
theorem tab_in {l : List (String × DataW Unit)} {W : World} (name : String) {k : IntKind} {zs : List Int} {g : Nat} {t e : TypeId} {n : Nat} (hL : laidMetH Tryd.prog l W)
    (hf : l.filter (fun x => x.1 == name) = [(name, Lib.tabData k zs)])
    (hg : Tryd.prog.globalNamed name = some g) (hty : (Tryd.prog.globals[g]?).map (·.type) = some t) (ht : Tryd.prog.underlying t = some (.array n e)) (he : Tryd.prog.underlying e = some (.int k)) (hce : Tryd.prog.cellsOf e = 1) (hct : Tryd.prog.cellsOf t = n) :
    ∀ i, i < zs.length → W.cell? ⟨g, i, none⟩ = some (.int k (zs.getD i 0)) := by
  have h := hL.filter (fun x => x.1 == name)
  rw [hf] at h
  have h' : Lib.TabIs Tryd.prog W name k zs := Lib.tabIs_of_head (rest := []) hg hty ht he hce hct h
  exact fun i hi => h'.cell hg i hi
theorem range_of_cells {m : Nat} {W : World} {g : Nat} {k : IntKind} {L : List (BitVec m)} (h : ∀ i, i < (L.map wi).length → W.cell? ⟨g, i, none⟩ = some (.int k ((L.map wi).getD i 0))) : W.rangeAt g 0 (L.map fun v => Value.int k (wi v)) := by
  intro j v hv
  obtain ⟨hj, hje⟩ := List.getElem?_eq_some_iff.1 hv
  rw [List.length_map] at hj
  have := h j (by rw [List.length_map]; exact hj)
  rw [getD_wi] at this
  rw [Nat.zero_add, this, ← hje]
  simp [hj]
theorem tabs_of {k2 k5 s2 s3 s5 : Nat} {W : World} (a : ∀ i, i < (K256.map wi).length → W.cell? ⟨k2, i, none⟩ = some (.int .u32 ((K256.map wi).getD i 0))) (b : ∀ i, i < (K512.map wi).length → W.cell? ⟨k5, i, none⟩ = some (.int .u64 ((K512.map wi).getD i 0)))
    (c : ∀ i, i < (start256.list.map wi).length → W.cell? ⟨s2, i, none⟩ = some (.int .u32 ((start256.list.map wi).getD i 0))) (d : ∀ i, i < (start384.list.map wi).length → W.cell? ⟨s3, i, none⟩ = some (.int .u64 ((start384.list.map wi).getD i 0)))
    (e : ∀ i, i < (start512.list.map wi).length → W.cell? ⟨s5, i, none⟩ = some (.int .u64 ((start512.list.map wi).getD i 0))) : Tabs k2 k5 s2 s3 s5 W :=
  ⟨fun i hi => by have := a i hi; rwa [getD_wi] at this, fun i hi => by have := b i hi; rwa [getD_wi] at this, range_of_cells c, range_of_cells d, range_of_cells e⟩

/-- A table laid into a row of noughts. -/
def layRow {m : Nat} (k : IntKind) (L : List (BitVec m)) : Obj → Obj
  | .cells _ t frozen => .cells (L.map fun v => Value.int k (wi v)).toArray t frozen
  | o => o
theorem tabs_sha {l : List (String × DataW Unit)} {W : World} (hL : laidMetH Tryd.prog l W)
    (h0 : l.filter (fun x => x.1 == "signet/sha.k256") = [("signet/sha.k256", Lib.tabData .u32 (K256.map wi))])
    (h1 : l.filter (fun x => x.1 == "signet/sha.k512") = [("signet/sha.k512", Lib.tabData .u64 (K512.map wi))])
    (h2 : l.filter (fun x => x.1 == "signet/sha.start256") = [("signet/sha.start256", Lib.tabData .u32 (start256.list.map wi))])
    (h3 : l.filter (fun x => x.1 == "signet/sha.start384") = [("signet/sha.start384", Lib.tabData .u64 (start384.list.map wi))])
    (h4 : l.filter (fun x => x.1 == "signet/sha.start512") = [("signet/sha.start512", Lib.tabData .u64 (start512.list.map wi))])
    : ShaTabs W :=
  tabs_of
    (tab_in "signet/sha.k256" (t := 50) (e := 40) hL h0 (by kernel_rfl) (by kernel_rfl) Tryd.underlying50 Tryd.underlying40 (by kernel_rfl) (by kernel_rfl))
    (tab_in "signet/sha.k512" (t := 52) (e := 42) hL h1 (by kernel_rfl) (by kernel_rfl) Tryd.underlying52 Tryd.underlying42 (by kernel_rfl) (by kernel_rfl))
    (tab_in "signet/sha.start256" (t := 41) (e := 40) hL h2 (by kernel_rfl) (by kernel_rfl) Tryd.underlying41 Tryd.underlying40 (by kernel_rfl) (by kernel_rfl))
    (tab_in "signet/sha.start384" (t := 43) (e := 42) hL h3 (by kernel_rfl) (by kernel_rfl) Tryd.underlying43 Tryd.underlying42 (by kernel_rfl) (by kernel_rfl))
    (tab_in "signet/sha.start512" (t := 43) (e := 42) hL h4 (by kernel_rfl) (by kernel_rfl) Tryd.underlying43 Tryd.underlying42 (by kernel_rfl) (by kernel_rfl))
theorem tabs_ref {l : List (String × DataW Unit)} {W : World} (hL : laidMetH Tryd.prog l W)
    (h0 : l.filter (fun x => x.1 == "signet/signetref4.k256") = [("signet/signetref4.k256", Lib.tabData .u32 (K256.map wi))])
    (h1 : l.filter (fun x => x.1 == "signet/signetref4.k512") = [("signet/signetref4.k512", Lib.tabData .u64 (K512.map wi))])
    (h2 : l.filter (fun x => x.1 == "signet/signetref4.start256") = [("signet/signetref4.start256", Lib.tabData .u32 (start256.list.map wi))])
    (h3 : l.filter (fun x => x.1 == "signet/signetref4.start384") = [("signet/signetref4.start384", Lib.tabData .u64 (start384.list.map wi))])
    (h4 : l.filter (fun x => x.1 == "signet/signetref4.start512") = [("signet/signetref4.start512", Lib.tabData .u64 (start512.list.map wi))])
    : RefTabs W :=
  tabs_of
    (tab_in "signet/signetref4.k256" (t := 50) (e := 40) hL h0 (by kernel_rfl) (by kernel_rfl) Tryd.underlying50 Tryd.underlying40 (by kernel_rfl) (by kernel_rfl))
    (tab_in "signet/signetref4.k512" (t := 52) (e := 42) hL h1 (by kernel_rfl) (by kernel_rfl) Tryd.underlying52 Tryd.underlying42 (by kernel_rfl) (by kernel_rfl))
    (tab_in "signet/signetref4.start256" (t := 41) (e := 40) hL h2 (by kernel_rfl) (by kernel_rfl) Tryd.underlying41 Tryd.underlying40 (by kernel_rfl) (by kernel_rfl))
    (tab_in "signet/signetref4.start384" (t := 43) (e := 42) hL h3 (by kernel_rfl) (by kernel_rfl) Tryd.underlying43 Tryd.underlying42 (by kernel_rfl) (by kernel_rfl))
    (tab_in "signet/signetref4.start512" (t := 43) (e := 42) hL h4 (by kernel_rfl) (by kernel_rfl) Tryd.underlying43 Tryd.underlying42 (by kernel_rfl) (by kernel_rfl))
/-- Every table laid. -/
def layAll (h : Array Obj) : Array Obj := ((((((((((h.modify 0 (layRow .u32 start256.list)).modify 1 (layRow .u64 start384.list)).modify 2 (layRow .u64 start512.list)).modify 8 (layRow .u32 K256)).modify 9 (layRow .u64 K512)).modify 5 (layRow .u32 start256.list)).modify 3 (layRow .u64 start384.list)).modify 4 (layRow .u64 start512.list)).modify 6 (layRow .u32 K256)).modify 7 (layRow .u64 K512))
/-- A world that holds all tables. -/
noncomputable def laidWorld (os : Os) : World := { World.holding Tryd.prog os ⟨#[], #[], []⟩ with heap := layAll (World.holding Tryd.prog os ⟨#[], #[], []⟩).heap }
end Go.Proofs.YtnlmkikaaifcmaaDoor
