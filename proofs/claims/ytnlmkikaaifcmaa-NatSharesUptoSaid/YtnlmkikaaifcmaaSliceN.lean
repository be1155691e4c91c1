/- s[j:] and s[i:j] of a slice, by their run. -/
import Derived.Test.YtnlmkikaaifcmaaBaseB
set_option linter.unusedVariables false
set_option linter.unusedSimpArgs false
namespace Go.Sg
open Go.RowKit
theorem run_from {P : Program} (w : World) (T E : TypeId) (hu : P.underlying T = some (.slice E)) (hs : (P.info? E).map (·.size) = some 1) (a : Option Addr) (n cap l : Nat) (h1 : l ≤ n) (h2 : n ≤ cap) (L : Int) (hL : L = l) :
    (Instr.sliceAt T (.slice a n cap) (some (.int .i64 L)) none none).run P w = .ok (.slice (if cap - l = 0 then a else a.map (·.add l)) (n - l) (cap - l)) w := by
  subst hL
  cases hq : P.info? E with
  | none => simp [hq] at hs
  | some i =>
    have hz : i.size = 1 := by simpa [hq] using hs
    simp [Instr.sliceAt, Instr.slice, run_underlying hu, Instr.sliceBounds, run_sliceBound, sizeOf, typeInfo, hq, hz, h1, h2]
    have e : cap = l ↔ cap - l = 0 := by omega
    simp only [e]
theorem run_mid {P : Program} (w : World) (T E : TypeId) (hu : P.underlying T = some (.slice E)) (hs : (P.info? E).map (·.size) = some 1) (a : Option Addr) (n cap l h : Nat) (h1 : l ≤ h) (h2 : h ≤ cap) (L H : Int) (hL : L = l) (hH : H = h) :
    (Instr.sliceAt T (.slice a n cap) (some (.int .i64 L)) (some (.int .i64 H)) none).run P w = .ok (.slice (if cap - l = 0 then a else a.map (·.add l)) (h - l) (cap - l)) w := by
  subst hL hH
  cases hq : P.info? E with
  | none => simp [hq] at hs
  | some i =>
    have hz : i.size = 1 := by simpa [hq] using hs
    simp [Instr.sliceAt, Instr.slice, run_underlying hu, Instr.sliceBounds, run_sliceBound, sizeOf, typeInfo, hq, hz, h1, h2]
    have e : cap = l ↔ cap - l = 0 := by omega
    simp only [e]
theorem run_to {P : Program} (w : World) (T E : TypeId) (hu : P.underlying T = some (.slice E)) (hs : (P.info? E).map (·.size) = some 1) (a : Option Addr) (n cap h : Nat) (h1 : h ≤ cap) (H : Int) (hH : H = h) :
    (Instr.sliceAt T (.slice a n cap) none (some (.int .i64 H)) none).run P w = .ok (.slice a h cap) w := by
  subst hH
  cases hq : P.info? E with
  | none => simp [hq] at hs
  | some i =>
    have hz : i.size = 1 := by simpa [hq] using hs
    have e : (if cap = 0 then a else a.map (·.add 0)) = a := by
      split
      · rfl
      · cases a with
        | none => rfl
        | some ad =>
          obtain ⟨b, off, sp⟩ := ad
          cases sp <;> simp [Addr.add]
    simp [Instr.sliceAt, Instr.slice, run_underlying hu, Instr.sliceBounds, run_sliceBound, sizeOf, typeInfo, hq, hz, h1, e]
theorem Cells.drop' {k : IntKind} {w : World} {a : Option Addr} {xs : List Int} (h : Cells k w a xs) (l : Nat) (c : Nat) : Cells k w (if c = 0 then a else a.map (·.add l)) (xs.drop l) ∨ c = 0 := by
  by_cases hc : c = 0
  · exact .inr hc
  · left
    rw [if_neg hc]
    intro hp
    rw [List.length_drop] at hp
    obtain ⟨b, off, rfl, hcc⟩ := h (by omega)
    refine ⟨b, off + l, by simp [Addr.add], fun j hj => ?_⟩
    rw [List.length_drop] at hj
    have := hcc (l + j) (by omega)
    rw [nth_drop, Nat.add_assoc]
    exact this
/-- s[l:]: its numbers, and what the operation gives at every world. -/
theorem Sl.from {P : Program} {T E : TypeId} {k : IntKind} {w : World} {a : Option Addr} {cap : Nat} {xs : List Int} (h : Sl k w a cap xs) (hu : P.underlying T = some (.slice E)) (hs : (P.info? E).map (·.size) = some 1) (l : Nat) (hl : l ≤ xs.length) :
    ∃ ad, Sl k w ad (cap - l) (xs.drop l) ∧ ∀ W : World, (Instr.sliceAt T (.slice a xs.length cap) (some (.int .i64 (l : Int))) none none).run P W = .ok (.slice ad (xs.length - l) (cap - l)) W := by
  have hle := h.le
  have hm := h.max
  refine ⟨_, ⟨by rw [List.length_drop]; omega, by omega, ?_⟩, fun W => run_from W T E hu hs a xs.length cap l hl hle l rfl⟩
  rcases h.cells.drop' l (cap - l) with h1 | h1
  · exact h1
  · intro hp
    rw [List.length_drop] at hp
    omega
/-- Where a part of a slice lies: in the same block. -/
theorem Sl.mid {P : Program} {T E : TypeId} {k : IntKind} {w : World} {a : Option Addr} {cap : Nat} {xs : List Int} (h : Sl k w a cap xs) (hu : P.underlying T = some (.slice E)) (hs : (P.info? E).map (·.size) = some 1) (l m : Nat) (hl : l ≤ m) (hm : m ≤ xs.length) :
    ∃ ad, Sl k w ad (cap - l) ((xs.take m).drop l) ∧ ∀ W : World, (Instr.sliceAt T (.slice a xs.length cap) (some (.int .i64 (l : Int))) (some (.int .i64 (m : Int))) none).run P W = .ok (.slice ad (m - l) (cap - l)) W := by
  have hle := h.le
  have hx := h.max
  refine ⟨_, ⟨by rw [List.length_drop, List.length_take]; omega, by omega, ?_⟩, fun W => run_mid W T E hu hs a xs.length cap l m hl (by omega) l m rfl rfl⟩
  rcases (h.cells.take m).drop' l (cap - l) with h1 | h1
  · exact h1
  · intro hp
    rw [List.length_drop, List.length_take] at hp
    omega
end Go.Sg
