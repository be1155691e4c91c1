/- Variables that hold hashes, several at once. No program in sight. -/
import Derived.Test.YtmbifokiebjmmaaDoorWideQ
set_option linter.unusedVariables false
set_option linter.unusedSimpArgs false
namespace Go.Sg
open Go.RowKit
/-- Whole arrays that hold these hashes. -/
def Has (T : TypeId) (w : World) (l : List (Nat × List Int)) : Prop := ∀ p ∈ l, Rw w p.1 T (p.2.map (Value.int .u8)) ∧ Dig p.2
section
variable {T : TypeId} {w w' : World} {l : List (Nat × List Int)}
theorem Has.keep (h : Has T w l) (hb : Below w.heap.size w w') : Has T w' l := fun p hp => ⟨(h p hp).1.keep hb, (h p hp).2⟩
theorem Has.grown {row : Option Nat} (h : Has T w l) (hg : w.grownBy w' row) (hne : ∀ p ∈ l, some p.1 ≠ row) : Has T w' l := fun p hp => ⟨(h p hp).1.grown hg (hne p hp), (h p hp).2⟩
theorem Has.at_ (h : Has T w l) {i g : Nat} {d : List Int} (hi : l[i]? = some (g, d)) : Rw w g T (d.map (Value.int .u8)) := (h (g, d) (List.mem_of_getElem? hi)).1
theorem Has.rng (h : Has T w l) {i g : Nat} {d : List Int} (hi : l[i]? = some (g, d)) : w.rangeAt g 0 (d.map (Value.int .u8)) := (h.at_ hi).range 0 _ fun j v hv => by rwa [Nat.zero_add]
theorem Has.dig (h : Has T w l) {i g : Nat} {d : List Int} (hi : l[i]? = some (g, d)) : Dig d := (h (g, d) (List.mem_of_getElem? hi)).2
end
/-- The variables of a call that began at w0. -/
structure Vars (T : TypeId) (w0 w : World) (l : List (Nat × List Int)) : Prop where
  has : Has T w l
  nd : (l.map Prod.fst).Nodup
  new : ∀ p ∈ l, w0.heap.size ≤ p.1
  below : Below w0.heap.size w0 w
section
variable {T : TypeId} {w0 w w' : World} {l : List (Nat × List Int)}
theorem Vars.start (T : TypeId) (w0 : World) : Vars T w0 w0 [] := ⟨fun _ h => (by cases h), by simp, fun _ h => (by cases h), .refl _ _⟩
theorem Vars.lt (h : Vars T w0 w l) : ∀ p ∈ l, p.1 < w.heap.size := fun p hp => (h.has p hp).1.lt
theorem Vars.keep (h : Vars T w0 w l) (hb : Below w.heap.size w w') : Vars T w0 w' l := ⟨h.has.keep hb, h.nd, h.new, h.below.trans (hb.mono h.below.size)⟩
theorem Vars.add (h : Vars T w0 w l) {d : List Int} (hk : Rw w' w.heap.size T (d.map (Value.int .u8))) (hb : Below w.heap.size w w') (hd : Dig d) : Vars T w0 w' (l ++ [(w.heap.size, d)]) := by
  refine ⟨fun p hp => ?_, ?_, fun p hp => ?_, h.below.trans (hb.mono h.below.size)⟩
  · rcases List.mem_append.1 hp with hp | hp
    · exact h.has.keep hb p hp
    · simp only [List.mem_singleton] at hp; subst hp; exact ⟨hk, hd⟩
  · rw [List.map_append, List.nodup_append]
    refine ⟨h.nd, by simp, fun a ha b hb' => ?_⟩
    obtain ⟨p, hp, rfl⟩ := List.mem_map.1 ha
    simp at hb'
    rw [hb']
    exact Nat.ne_of_lt (h.lt p hp)
  · rcases List.mem_append.1 hp with hp | hp
    · exact h.new p hp
    · simp only [List.mem_singleton] at hp; subst hp; exact h.below.size
theorem Vars.at_ (h : Vars T w0 w l) {i g : Nat} {d : List Int} (hi : l[i]? = some (g, d)) : Rw w g T (d.map (Value.int .u8)) := h.has.at_ hi
theorem Vars.dig (h : Vars T w0 w l) {i g : Nat} {d : List Int} (hi : l[i]? = some (g, d)) : Dig d := h.has.dig hi
theorem Vars.ne (h : Vars T w0 w l) {i j g g' : Nat} {d d' : List Int} (hi : l[i]? = some (g, d)) (hj : l[j]? = some (g', d')) (hij : i ≠ j) : some g ≠ some g' := by
  obtain ⟨h1, e1⟩ := List.getElem?_eq_some_iff.1 hi
  obtain ⟨h2, e2⟩ := List.getElem?_eq_some_iff.1 hj
  intro e
  have e := Option.some.inj e
  have hp := List.pairwise_iff_getElem.1 h.nd
  simp only [List.length_map, List.getElem_map] at hp
  rcases Nat.lt_or_gt_of_ne hij with c | c
  · exact hp i j h1 h2 c (by rw [e1, e2]; exact e)
  · exact hp j i h2 h1 c (by rw [e1, e2]; exact e.symm)
theorem Vars.set (h : Vars T w0 w l) (i : Nat) {g : Nat} {d d' : List Int} (hi : l[i]? = some (g, d)) (hk : Rw w' g T (d'.map (Value.int .u8))) (hg : w.grownBy w' (some g)) (hd : Dig d') : Vars T w0 w' (l.set i (g, d')) := by
  obtain ⟨h1, e1⟩ := List.getElem?_eq_some_iff.1 hi
  have nw := h.new (g, d) (List.mem_of_getElem? hi)
  refine ⟨fun p hp => ?_, ?_, fun p hp => ?_, h.below.grown hg h.below.size (by intro g' hg'; cases hg'; exact nw)⟩
  · obtain ⟨j, hj, rfl⟩ := List.getElem_of_mem hp
    rw [List.length_set] at hj
    rw [List.getElem_set]
    by_cases e : i = j
    · rw [if_pos e]; exact ⟨hk, hd⟩
    · rw [if_neg e]
      have hm := h.has _ (List.getElem_mem hj)
      exact ⟨hm.1.grown hg (h.ne (List.getElem?_eq_getElem hj) hi (fun e' => e e'.symm)), hm.2⟩
  · rw [List.map_set, show (g, d').1 = (g, d).1 from rfl, ← e1, show (l[i]).1 = (l.map Prod.fst)[i]'(by simpa using h1) by simp, List.set_getElem_self]
    exact h.nd
  · rcases List.mem_or_eq_of_mem_set hp with hp | hp
    · exact h.new p hp
    · rw [hp]; exact nw
theorem Vars.drew (h : Vars T w0 w l) (n : Nat) : Vars T w0 (w.drewN n) l := ⟨h.has, h.nd, h.new, below_drewN h.below n⟩
theorem Vars.grown {row : Option Nat} (h : Vars T w0 w l) (hg : w.grownBy w' row) (hnew : ∀ g, row = some g → w0.heap.size ≤ g) (hne : ∀ p ∈ l, some p.1 ≠ row) : Vars T w0 w' l :=
  ⟨h.has.grown hg hne, h.nd, h.new, h.below.grown hg h.below.size hnew⟩
end
theorem Has.sub {T : TypeId} {w : World} {l l' : List (Nat × List Int)} (h : Has T w l) (hs : ∀ p ∈ l', p ∈ l) : Has T w l' := fun p hp => h p (hs p hp)
theorem yieldsIf_eq_D {P : Program} {ops : Array Oper} {S : World → Prop} {op : Oper} {a : Act} (hw : Region.wanted op (yielded ops a.tmps) = true) (t t2 : TypeId) (x y : Operand) (ho : op.op = .binOp .eql t x y t2)
    (d d' : List Int) (hx : a.eval x = dval d) (hy : a.eval y = dval d') (r : Bool) (he : ∀ w, (binOp .eql t (dval d) (dval d')).run P w = .ok (.bool r) w) (hm : P.eqGuardType P.depth t = false) : YieldsIf P ops S op (.bool r) a :=
  .inl ⟨hw, fun w _ => by
    have hg := run_eqGuard_D (P := P) w t x y d d' hm
    unfold execOp
    simp only [ho, hx, hy, Sem.run_bind, Sem.run_pure, hg, he, Result.andThen_ok]⟩
end Go.Sg
