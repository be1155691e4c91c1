import Derived.Test.YtmbifokiebjmmaaDoorZ25
import Derived.Test.YtmbifokiebjmmaaDoorZ26
/- A script that came in; what stays over a round of LogPlays. (Printed by gen_logplays.py.) -/
set_option linter.unusedVariables false
set_option linter.unusedSimpArgs false
namespace Go.Sg
open Go.RowKit
theorem Lists.oneP {B : Nat} {E T : TypeId} {w : World} {v : Value} {xs : List Int} (h : New B .u8 E w v xs) (hB : B ≤ w.heap.size) : Lists B .u8 E T (w.alloc (.cells #[v] T)) (.slice (some ⟨w.heap.size, 0, none⟩) 1 1) 1 (fun _ => v) (fun _ => xs) :=
  ⟨.one v hB, fun i hi => h.alloc _, fun i j hi hj hne => absurd (show i = j by omega) hne⟩
theorem ss_oneP (w : World) (E : TypeId) (x : List Int) (ux : U8 x) : Ss (w.alloc (.cells #[str x] E)) (some ⟨w.heap.size, 0, none⟩) 1 [x] := by
  refine ⟨fun s hs => (by simp only [List.mem_singleton] at hs; rw [hs]; exact ux), by simp, by omega, fun _ => ⟨w.heap.size, 0, rfl, fun j hj => ?_⟩⟩
  obtain rfl : j = 0 := by simpa using hj
  rw [Nat.zero_add, cell_of_row (w.alloc (.cells #[str x] E)) w.heap.size 0 _ E (0, 0) (Go.heap_alloc_new w _)]
  rfl
/-- A script that came in: kind, entry, M, N. -/
structure Scr (w : World) (a : Option Addr) (cap : Nat) (ops : List (Int × List Int × Int × Int)) : Prop where
  u8 : ∀ o ∈ ops, U8 o.2.1
  le : ops.length ≤ cap
  max : cap ≤ 9223372036854775807
  at_ : 0 < ops.length → ∃ b off, a = some ⟨b, off, none⟩ ∧ ∀ j (h : j < ops.length), w.cell? ⟨b, off + j * 4, none⟩ = some (.int .i64 ops[j].1) ∧ w.cell? ⟨b, off + j * 4 + 1, none⟩ = some (str ops[j].2.1) ∧ w.cell? ⟨b, off + j * 4 + 2, none⟩ = some (.int .i64 ops[j].2.2.1) ∧ w.cell? ⟨b, off + j * 4 + 3, none⟩ = some (.int .i64 ops[j].2.2.2)
theorem Scr.below {w w' : World} {a : Option Addr} {cap : Nat} {ops : List (Int × List Int × Int × Int)} (h : Scr w a cap ops) (hb : Below w.heap.size w w') : Scr w' a cap ops := by
  refine ⟨h.u8, h.le, h.max, fun hp => ?_⟩
  obtain ⟨b, off, ha, hc⟩ := h.at_ hp
  have hl := World.block_lt_of_cell? w _ (hc 0 hp).1
  refine ⟨b, off, ha, fun j hj => ?_⟩
  obtain ⟨h1, h2, h3, h4⟩ := hc j hj
  have e := hb.block b hl
  exact ⟨by rw [World.cell?_of_block (w := w) e]; exact h1, by rw [World.cell?_of_block (w := w) e]; exact h2, by rw [World.cell?_of_block (w := w) e]; exact h3, by rw [World.cell?_of_block (w := w) e]; exact h4⟩
theorem KeepT.blk {E F : TypeId} {w w' : World} {g : Nat} {T : TypeId} {k : IntKind} {xs : List Int} (h : KeepT E F w w') (hk : Blk w g k T xs) (h1 : T ≠ E) (h2 : T ≠ F) : Blk w' g k T xs := h.2 g _ T _ hk h1 h2
theorem KeepT.laid {E F : TypeId} {w w' : World} {g z cap : Nat} {T : TypeId} {s : List Int} (h : KeepT E F w w') (hk : Laid1 T g z cap s w) (h1 : T ≠ E) (h2 : T ≠ F) : Laid1 T g z cap s w' := by
  obtain ⟨xs, hb, r⟩ := hk
  exact ⟨xs, h.blk hb h1 h2, r⟩
theorem NewV.heapT' {B : Nat} {E : TypeId} {w : World} {v : Value} {vs : List Value} {g : Nat} (h : NewV B E w v vs) (hg : v.ownBlock = some g) : ∃ cs, w.heap[g]? = some (.cells cs E (0, 0)) := by
  rcases h with ⟨rfl, _⟩ | ⟨q, cap, cs, rfl, _, hh, _⟩
  · simp [Value.ownBlock] at hg
  · cases hg
    exact ⟨cs, hh⟩
/-- A whole block stays. -/
theorem KeepT.whole {E F : TypeId} {w w' : World} {g : Nat} {T : TypeId} {cs : Array Value} (h : KeepT E F w w') (hk : w.heap[g]? = some (.cells cs T (0, 0))) (h1 : T ≠ E) (h2 : T ≠ F) : w'.heap[g]? = some (.cells cs T (0, 0)) := h.2 g _ T _ hk h1 h2
end Go.Sg
