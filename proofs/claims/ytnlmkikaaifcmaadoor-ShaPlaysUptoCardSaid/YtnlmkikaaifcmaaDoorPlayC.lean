/- A script of steps that came in; what the walk of ShaPlays reads of a book. No walk. -/
import Derived.Test.YtnlmkikaaifcmaaDoorPlayB
set_option linter.unusedVariables false
set_option linter.unusedSimpArgs false
namespace Go.Sg
open Go.RowKit
/-- A slice of steps: kind, which, bytes. -/
structure PScr (w : World) (a : Option Addr) (cap : Nat) (ops : List (Int × Int × Part)) : Prop where
  sl : ∀ o ∈ ops, Sl .u8 w o.2.2.a o.2.2.cap o.2.2.xs
  u8 : ∀ o ∈ ops, U8 o.2.2.xs
  rng : ∀ o ∈ ops, -9223372036854775808 ≤ o.2.1 ∧ o.2.1 ≤ 9223372036854775807
  le : ops.length ≤ cap
  max : cap ≤ 9223372036854775807
  at_ : 0 < ops.length → ∃ b off, a = some ⟨b, off, none⟩ ∧ ∀ j (h : j < ops.length), w.cell? ⟨b, off + j * 3, none⟩ = some (.int .i64 ops[j].1) ∧ w.cell? ⟨b, off + j * 3 + 1, none⟩ = some (.int .i64 ops[j].2.1) ∧ w.cell? ⟨b, off + j * 3 + 2, none⟩ = some ops[j].2.2.val
theorem PScr.below {w w' : World} {a : Option Addr} {cap : Nat} {ops : List (Int × Int × Part)} (h : PScr w a cap ops) (hb : Below w.heap.size w w') : PScr w' a cap ops := by
  refine ⟨fun o ho => (h.sl o ho).below hb, h.u8, h.rng, h.le, h.max, fun hp => ?_⟩
  obtain ⟨b, off, ha, hc⟩ := h.at_ hp
  have hl := World.block_lt_of_cell? w _ (hc 0 hp).1
  refine ⟨b, off, ha, fun j hj => ?_⟩
  obtain ⟨h1, h2, h3⟩ := hc j hj
  have e := hb.block b hl
  exact ⟨by rw [World.cell?_of_block (w := w) e]; exact h1, by rw [World.cell?_of_block (w := w) e]; exact h2, by rw [World.cell?_of_block (w := w) e]; exact h3⟩
theorem take_set_rep {Y : List Int} {q : Nat} {c : Int} (hq : q < Y.length) (h : Y.take q = List.replicate q c) : (Y.set q c).take (q + 1) = List.replicate (q + 1) c := by
  have e : (Y.set q c).take (q + 1) = Y.take q ++ [c] := by
    rw [List.take_add_one]
    simp [hq, List.take_set_of_le]
  rw [e, h, List.replicate_succ']
theorem rep_u8 (n : Nat) (c : Int) (h : 0 ≤ c ∧ c ≤ 255) : U8 (List.replicate n c) := .of_mem (by omega) (by intro x hx; have := List.eq_of_mem_replicate hx; omega)
/-- The call's own copy of a step. -/
def OpAt (T : TypeId) (W : World) (g : Nat) (k which : Int) (p : Part) : Prop := W.heap[g]? = some (.cells #[.int .i64 k, .int .i64 which, p.val] T (0, 0))
section
variable {T : TypeId} {W W' : World} {g : Nat} {k which : Int} {p : Part}
theorem OpAt.lt (h : OpAt T W g k which p) : g < W.heap.size := (Array.getElem?_eq_some_iff.1 h).1
theorem OpAt.below {N : Nat} (h : OpAt T W g k which p) (hb : Below N W W') (hg : g < N) : OpAt T W' g k which p := (hb.block g hg).trans h
theorem OpAt.grown {row : Option Nat} (h : OpAt T W g k which p) (hg : W.grownBy W' row) (hne : some g ≠ row) : OpAt T W' g k which p := (hg.block g h.lt hne).trans h
theorem OpAt.c0 (h : OpAt T W g k which p) : W.cell? ⟨g, 0, none⟩ = some (.int .i64 k) := by rw [cell_of_row W g 0 _ _ (0, 0) h]; rfl
theorem OpAt.c1 (h : OpAt T W g k which p) : W.cell? ⟨g, 1, none⟩ = some (.int .i64 which) := by rw [cell_of_row W g 1 _ _ (0, 0) h]; rfl
theorem OpAt.c2 (h : OpAt T W g k which p) : W.cell? ⟨g, 2, none⟩ = some p.val := by rw [cell_of_row W g 2 _ _ (0, 0) h]; rfl
end
end Go.Sg
namespace Go.Proofs.YtnlmkikaaifcmaaDoor
open Go.RowKit Go.Sg
section
variable {B N n m : Nat} {h : Int} {w w' : World} {vs vt : Value} {G : Nat → Nat} {S T : Nat → List Int} {X : Nat → Value}
theorem Book.slS (b : Book B N h w vs vt n m G S T X) (hn : 0 < n) : ∃ g c, vs = .slice (some ⟨g, 0, none⟩) n c ∧ n ≤ c ∧ ∀ j, j < n → w.cell? ⟨g, j, none⟩ = some (.pointer (some ⟨G j, 0, none⟩)) := by
  obtain ⟨a, c, rfl⟩ := b.rs.sl
  have hl : ((List.range n).map fun i => Value.pointer (some ⟨G i, 0, none⟩)).length = n := by simp
  obtain ⟨g, rfl, -, -⟩ := b.rs.cell 0 (by rw [hl]; exact hn)
  refine ⟨g, c, by rw [hl], ?_, fun j hj => ?_⟩
  · rcases b.rs with ⟨h, _⟩ | ⟨g', cap, cs, hv, _, _, h1, _⟩
    · simp at h
    · simp only [Value.slice.injEq] at hv
      rw [hl] at h1
      omega
  · obtain ⟨g', e, -, hc⟩ := b.rs.cell j (by rw [hl]; exact hj)
    cases e
    simpa using hc
theorem Book.slT (b : Book B N h w vs vt n m G S T X) (hn : 0 < m) : ∃ g c, vt = .slice (some ⟨g, 0, none⟩) m c ∧ m ≤ c ∧ ∀ j, j < m → w.cell? ⟨g, j, none⟩ = some (X j) := by
  obtain ⟨a, c, rfl⟩ := b.rt.sl
  have hl : ((List.range m).map X).length = m := by simp
  obtain ⟨g, rfl, -, -⟩ := b.rt.cell 0 (by rw [hl]; exact hn)
  refine ⟨g, c, by rw [hl], ?_, fun j hj => ?_⟩
  · rcases b.rt with ⟨h, _⟩ | ⟨g', cap, cs, hv, _, _, h1, _⟩
    · simp at h
    · simp only [Value.slice.injEq] at hv
      rw [hl] at h1
      omega
  · obtain ⟨g', e, -, hc⟩ := b.rt.cell j (by rw [hl]; exact hj)
    cases e
    simpa using hc
/-- A state that was written to, as the book has it: what is known of its block. -/
theorem Book.cellsS {g c k : Nat} (b : Book B N h w (.slice (some ⟨g, 0, none⟩) k c) vt n m G S T X) {j : Nat} (hj : j < n) : w.cell? ⟨g, j, none⟩ = some (.pointer (some ⟨G j, 0, none⟩)) := by
  obtain ⟨g', c', e, -, hc⟩ := b.slS (by omega)
  cases e
  exact hc j hj
theorem Book.cellsT {g c k : Nat} (b : Book B N h w vs (.slice (some ⟨g, 0, none⟩) k c) n m G S T X) {j : Nat} (hj : j < m) : w.cell? ⟨g, j, none⟩ = some (X j) := by
  obtain ⟨g', c', e, -, hc⟩ := b.slT (by omega)
  cases e
  exact hc j hj
theorem infoU8 : (Tryd.prog.info? 5).map (fun i => (i.zero, i.size, i.bytes)) = some (some (.int .u8 0), 1, 1) := by kernel_rfl
theorem infoP : (Tryd.prog.info? 24).map (fun i => (i.zero, i.size, i.bytes)) = some (some (.pointer none), 1, 8) := by kernel_rfl
theorem infoSl : (Tryd.prog.info? 29).map (fun i => (i.zero, i.size, i.bytes)) = some (some (.slice none 0 0), 1, 24) := by kernel_rfl
theorem sha_ne {h : Int} (hh : IsHash h) : (shaSize h == 0) = false := by rcases hh with rfl | rfl | rfl <;> rfl
theorem sha_no {h : Int} (hh : ¬ IsHash h) : shaSize h = 0 := by unfold shaSize; rw [if_neg (fun e => hh (.inl e)), if_neg (fun e => hh (.inr (.inl e))), if_neg (fun e => hh (.inr (.inr e)))]
end
end Go.Proofs.YtnlmkikaaifcmaaDoor
