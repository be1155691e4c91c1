import Derived.Test.YtlolkighnnedfaaDoorZ2
import Derived.Test.YtlolkighnnedfaaDoorCards
import Derived.Test.YtlolkighnnedfaaDoorTie
import Derived.Test.YtlolkighnnedfaaDoorZ24
import Derived.Test.YtlolkighnnedfaaDoorZ28
import Derived.LaidSub
import Derived.Deep.DeepHandedRow
import Derived.Lib.LaidTab
/- What a row's list of layer 13's tables gives, and a world that holds them. -/
set_option linter.unusedVariables false
set_option linter.unusedSimpArgs false
namespace Go.Proofs.YtlolkighnnedfaaDoor
open Go.RowKit Go.Sg
theorem tab_ed {l : List (String × DataW Unit)} {W : World} {name : String} {g : Nat} (hL : laidMetH Tryd.prog l W) (L : List Int) (hl : L.length = 8)
    (hf : l.filter (fun x => x.1 == name) = [(name, Lib.tabData .u32 L)]) (hg : Tryd.prog.globalNamed name = some g) (hty : (Tryd.prog.globals[g]?).map (·.type) = some 95) : TabAt W g L := by
  have h := hL.filter (fun x => x.1 == name)
  rw [hf] at h
  have h' : Lib.TabIs Tryd.prog W name .u32 L := Lib.tabIs_of_head (rest := []) hg hty Tryd.underlying95 Tryd.underlying36 (by kernel_rfl) (by kernel_rfl) h
  refine ⟨hl, fun j v hv => ?_⟩
  obtain ⟨hj, hje⟩ := List.getElem?_eq_some_iff.1 hv
  rw [List.length_map] at hj
  have hc := h'.cell hg j hj
  rw [Nat.zero_add, hc, ← hje]
  simp [hj]
theorem cells_of_nest {H : Type} {enc : TypeId × Value → H} {P : Program} {w : World} {base : Nat} {sp : Nat → Bool} {held : Bool} {fuel : Nat} {t te e : TypeId} {k : IntKind} {cs : List Value} {L M : List Int} {p : List MemPlace}
    (ht : P.underlying t = some (.array 2 te)) (hte : P.underlying te = some (.array 8 e)) (he : P.underlying e = some (.int k)) (hce : P.cellsOf e = 1) (hcte : P.cellsOf te = 8) (hct : P.cellsOf t = 16)
    (h : DataW.trod enc P w base sp held fuel t cs = some (.agg [Lib.tabData k L, Lib.tabData k M], p)) : cs = (L ++ M).map fun z => Value.int k z := by
  cases fuel with
  | zero => simp [DataW.trod] at h
  | succ fuel =>
    simp only [DataW.trod, ht, hcte, hct] at h
    split at h
    · rename_i hl
      obtain ⟨xs, hm, hx⟩ := Option.map_eq_some_iff.1 h
      have hxs : xs.map (·.1) = [Lib.tabData k L, Lib.tabData k M] := by
        have := congrArg Prod.fst hx
        simpa using this
      obtain ⟨b0, hb0, hf0⟩ := Lib.mapM_at hm 0 0 (by simp)
      obtain ⟨b1, hb1, hf1⟩ := Lib.mapM_at hm 1 1 (by simp)
      have e0 : b0.1 = Lib.tabData k L := by
        have h2 : (xs.map (·.1))[0]? = some b0.1 := by simp [hb0]
        rw [hxs] at h2
        simpa using h2.symm
      have e1 : b1.1 = Lib.tabData k M := by
        have h2 : (xs.map (·.1))[1]? = some b1.1 := by simp [hb1]
        rw [hxs] at h2
        simpa using h2.symm
      have c0 := Lib.cells_of_tab hte he hce hcte (p := b0.2) (zs := L) (hf0.trans (by rw [← e0]))
      have c1 := Lib.cells_of_tab hte he hce hcte (p := b1.2) (zs := M) (hf1.trans (by rw [← e1]))
      rw [List.map_append, ← c0, ← c1]
      simp at hl ⊢
      rw [show (cs.drop 8).take 8 = cs.drop 8 by rw [List.take_of_length_le (by rw [List.length_drop]; omega)], List.take_append_drop]
    · cases h
theorem base_of {l : List (String × DataW Unit)} {W : World} (hL : laidMetH Tryd.prog l W)
    (hf : l.filter (fun x => x.1 == "signet/ed.baseLimbs") = [("signet/ed.baseLimbs", .agg [Lib.tabData .u32 limbX, Lib.tabData .u32 limbY])]) : BaseT W 1 := by
  have h := hL.filter (fun x => x.1 == "signet/ed.baseLimbs")
  rw [hf] at h
  have hg : Tryd.prog.globalNamed "signet/ed.baseLimbs" = some 1 := by kernel_rfl
  have hv : W.var? Tryd.prog "signet/ed.baseLimbs" = some ((limbX ++ limbY).map fun z => Value.int .u32 z).toArray := by
    obtain ⟨ps, ⟨g', t', cs, fuel, p, q, hg', ht', hvar, hd, _, _⟩, _⟩ := h
    obtain rfl := Option.some.inj (hg.symm.trans hg')
    obtain rfl := Option.some.inj ((show (Tryd.prog.globals[1]?).map (·.type) = some 97 by kernel_rfl).symm.trans ht')
    rw [hvar, ← cells_of_nest Tryd.underlying97 Tryd.underlying95 Tryd.underlying36 (by kernel_rfl) (by kernel_rfl) (by kernel_rfl) hd]
  have hc := fun i => World.var?_cell hg hv i
  refine ⟨⟨rfl, fun j v hj => ?_⟩, fun j v hj => ?_⟩
  · obtain ⟨hl, he⟩ := List.getElem?_eq_some_iff.1 hj
    rw [List.length_map] at hl
    have := hc j
    rw [Nat.zero_add, this, ← he]
    simp only [List.map_append, List.getElem?_toArray]
    rw [List.getElem?_append_left (by rw [List.length_map]; exact hl)]
    simp [hl]
  · obtain ⟨hl, he⟩ := List.getElem?_eq_some_iff.1 hj
    rw [List.length_map] at hl
    have := hc (8 + j)
    rw [this, ← he]
    have e8 : limbX.length = 8 := rfl
    simp only [List.map_append, List.getElem?_toArray]
    rw [List.getElem?_append_right (by rw [List.length_map, e8]; omega), List.length_map, e8, Nat.add_sub_cancel_left]
    simp [hl]
/-- Numbers laid into a row of noughts. -/
def layNums (L : List Int) : Obj → Obj
  | .cells _ t frozen => .cells (L.map (Value.int .u32)).toArray t frozen
  | o => o
def layEd (h : Array Obj) : Array Obj := ((((h.modify 0 (layNums limbP)).modify 2 (layNums limbL)).modify 3 (layNums limbD)).modify 4 (layNums limbI)).modify 1 (layNums (limbX ++ limbY))
def layRow {m : Nat} (k : IntKind) (L : List (BitVec m)) : Obj → Obj
  | .cells _ t frozen => .cells (L.map fun v => Value.int k (wi v)).toArray t frozen
  | o => o
def laySha (h : Array Obj) : Array Obj := ((((h.modify 5 (layRow .u32 start256.list)).modify 6 (layRow .u64 start384.list)).modify 7 (layRow .u64 start512.list)).modify 9 (layRow .u32 K256)).modify 10 (layRow .u64 K512)
def layRef (h : Array Obj) : Array Obj := h
theorem getD_wi {m : Nat} (l : List (BitVec m)) (i : Nat) : (l.map wi).getD i 0 = wi (l.getD i 0) := by
  simp only [List.getD_eq_getElem?_getD, List.getElem?_map]
  cases l[i]? <;> simp [wi]
/-- One table of the row's list. -/
theorem tab_in {l : List (String × DataW Unit)} {W : World} (name : String) {k : IntKind} {zs : List Int} {g : Nat} {t e : TypeId} {n : Nat} (hL : laidMetH Tryd.prog l W)
    (hf : l.filter (fun x => x.1 == name) = [(name, Lib.tabData k zs)])
    (hg : Tryd.prog.globalNamed name = some g) (hty : (Tryd.prog.globals[g]?).map (·.type) = some t) (ht : Tryd.prog.underlying t = some (.array n e)) (he : Tryd.prog.underlying e = some (.int k)) (hce : Tryd.prog.cellsOf e = 1) (hct : Tryd.prog.cellsOf t = n) :
    ∀ i, i < zs.length → W.cell? ⟨g, i, none⟩ = some (.int k (zs.getD i 0)) := by
  have h := hL.filter (fun x => x.1 == name)
  rw [hf] at h
  have h' : Lib.TabIs Tryd.prog W name k zs := Lib.tabIs_of_head (rest := []) hg hty ht he hce hct h
  exact fun i hi => h'.cell hg i hi
theorem range_of_cells {m : Nat} {W : World} {g : Nat} {k : IntKind} {L : List (BitVec m)} (h : ∀ i, i < (L.map wi).length → W.cell? ⟨g, i, none⟩ = some (.int k ((L.map wi).getD i 0))) : W.rangeAt g 0 (L.map fun v => Value.int k (wi v)) := by
  intro j v hv
  obtain ⟨hj, hje⟩ := List.getElem?_eq_some_iff.1 hv
  rw [List.length_map] at hj
  have := h j (by rw [List.length_map]; exact hj)
  rw [getD_wi] at this
  rw [Nat.zero_add, this, ← hje]
  simp [hj]
theorem tabs_of {k2 k5 s2 s3 s5 : Nat} {W : World} (a : ∀ i, i < (K256.map wi).length → W.cell? ⟨k2, i, none⟩ = some (.int .u32 ((K256.map wi).getD i 0))) (b : ∀ i, i < (K512.map wi).length → W.cell? ⟨k5, i, none⟩ = some (.int .u64 ((K512.map wi).getD i 0)))
    (c : ∀ i, i < (start256.list.map wi).length → W.cell? ⟨s2, i, none⟩ = some (.int .u32 ((start256.list.map wi).getD i 0))) (d : ∀ i, i < (start384.list.map wi).length → W.cell? ⟨s3, i, none⟩ = some (.int .u64 ((start384.list.map wi).getD i 0)))
    (e : ∀ i, i < (start512.list.map wi).length → W.cell? ⟨s5, i, none⟩ = some (.int .u64 ((start512.list.map wi).getD i 0))) : Tabs k2 k5 s2 s3 s5 W :=
  ⟨fun i hi => by have := a i hi; rwa [getD_wi] at this, fun i hi => by have := b i hi; rwa [getD_wi] at this, range_of_cells c, range_of_cells d, range_of_cells e⟩

theorem tabs_sha {l : List (String × DataW Unit)} {W : World} (hL : laidMetH Tryd.prog l W)
    (h0 : l.filter (fun x => x.1 == "signet/sha.k256") = [("signet/sha.k256", Lib.tabData .u32 (K256.map wi))])
    (h1 : l.filter (fun x => x.1 == "signet/sha.k512") = [("signet/sha.k512", Lib.tabData .u64 (K512.map wi))])
    (h2 : l.filter (fun x => x.1 == "signet/sha.start256") = [("signet/sha.start256", Lib.tabData .u32 (start256.list.map wi))])
    (h3 : l.filter (fun x => x.1 == "signet/sha.start384") = [("signet/sha.start384", Lib.tabData .u64 (start384.list.map wi))])
    (h4 : l.filter (fun x => x.1 == "signet/sha.start512") = [("signet/sha.start512", Lib.tabData .u64 (start512.list.map wi))])
    : ShaTabs W :=
  tabs_of
    (tab_in "signet/sha.k256" (t := 127) (e := 36) hL h0 (by kernel_rfl) (by kernel_rfl) Tryd.underlying127 Tryd.underlying36 (by kernel_rfl) (by kernel_rfl))
    (tab_in "signet/sha.k512" (t := 129) (e := 89) hL h1 (by kernel_rfl) (by kernel_rfl) Tryd.underlying129 Tryd.underlying89 (by kernel_rfl) (by kernel_rfl))
    (tab_in "signet/sha.start256" (t := 95) (e := 36) hL h2 (by kernel_rfl) (by kernel_rfl) Tryd.underlying95 Tryd.underlying36 (by kernel_rfl) (by kernel_rfl))
    (tab_in "signet/sha.start384" (t := 120) (e := 89) hL h3 (by kernel_rfl) (by kernel_rfl) Tryd.underlying120 Tryd.underlying89 (by kernel_rfl) (by kernel_rfl))
    (tab_in "signet/sha.start512" (t := 120) (e := 89) hL h4 (by kernel_rfl) (by kernel_rfl) Tryd.underlying120 Tryd.underlying89 (by kernel_rfl) (by kernel_rfl))
/-- A world that holds all tables. -/
noncomputable def laidWorldE (os : Os) : World := { World.holding Tryd.prog os ⟨#[], #[], []⟩ with heap := layRef (laySha (layEd (World.holding Tryd.prog os ⟨#[], #[], []⟩).heap)) }
end Go.Proofs.YtlolkighnnedfaaDoor
