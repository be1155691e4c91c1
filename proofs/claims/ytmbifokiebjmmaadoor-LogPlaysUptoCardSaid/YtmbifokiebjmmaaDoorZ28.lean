import Derived.Test.YtmbifokiebjmmaaDoorZ24
import Derived.Test.YtmbifokiebjmmaaDoorZ27
import Derived.Deep.Slices
import Derived.Deep.Fields
import Derived.ChangeSame
/- A slice of structs of four fields (int, string, int, int) that came in, as the contracts read it; what the bound gives. -/
set_option linter.unusedVariables false
set_option linter.unusedSimpArgs false
namespace Go.Proofs.YtmbifokiebjmmaaDoor
open Go.ChangeShapes Go.WideShapes Go.ChangeAt Go.RowKit Go.Sg Go.Deep
section
variable {H : Type} {enc : TypeId × Value → H} {P : Program} {w : World} {base : Nat} {spare : Nat → Bool} {held : Bool}
theorem open_slice_fields {t e : TypeId} {fs : Array Field} {fuel : Nat} {cs : List Value} {x : DataW H × List MemPlace} (ht : P.underlying t = some (.slice e)) (he : P.underlying e = some (.struct fs))
    (hone : oneCellFields P fs = true) (hC : P.cellsOf e = fs.size) (h : DataW.trod enc P w base spare held fuel t cs = some x) :
    (cs = [.slice none 0 0] ∧ x = (.nil, [])) ∨
    ∃ (a : Addr) (len cap m : Nat) (D : Nat → DataW H) (Pl : Nat → List MemPlace), cs = [.slice (some a) len cap] ∧ base ≤ a.block ∧ len ≤ cap ∧ cap ≤ maxLen ∧ m = (if spare a.block then cap else len) ∧
      x = (.slice ((List.range len).map D) ((List.range (m - len)).map fun j => D (len + j)), MemPlace.row a (m * fs.size) ++ (List.range m).flatMap Pl) ∧
      ∀ i, i < m → ∃ (ys : List (DataW H × List MemPlace)) (n : Nat), D i = .agg (ys.map (·.1)) ∧ Pl i = ys.flatMap (·.2) ∧ ys.length = fs.size ∧
        ∀ (j : Nat) (f : Field), fs[j]? = some f → ∃ (v : Value) (y : DataW H × List MemPlace), w.cell? (a.add (i * fs.size + j)) = some v ∧ ys[j]? = some y ∧ DataW.trod enc P w base spare held n f.type [v] = some y := by
  rcases open_slice ht h with h0 | ⟨a, len, cap, m, n, D, Pl, hcs, hb, hl, hm, hmm, hx, hi⟩
  · exact .inl h0
  · refine .inr ⟨a, len, cap, m, D, Pl, hcs, hb, hl, hm, hmm, by rw [hC] at hx; exact hx, fun i him => ?_⟩
    obtain ⟨cs', hc, ht'⟩ := hi i him
    rw [hC] at hc
    obtain ⟨ys, n', hn', hy, hlen, hyl, hf⟩ := DataW.trod_struct he ht'
    obtain ⟨_, hcl, hat⟩ := World.cells?_some hc
    simp only [Prod.mk.injEq] at hy
    refine ⟨ys, n', hy.1, hy.2, hyl, fun j f hj => ?_⟩
    obtain ⟨ho, hk⟩ := hone_of hone j f hj
    have hjl : j < fs.size := (Array.getElem?_eq_some_iff.1 hj).1
    have hcell := hat j hjl
    have hv : cs'[j]? = some (cs'[j]'(by omega)) := List.getElem?_eq_getElem (by omega)
    have h1 := hf j f hj
    rw [ho, hk] at h1
    have hone' : (cs'.drop j).take 1 = [cs'[j]'(by omega)] := by
      rw [List.drop_eq_getElem_cons (by omega)]
      rfl
    rw [hone'] at h1
    have hys : ys[j]? = some (ys[j]'(by omega)) := List.getElem?_eq_getElem (by omega)
    refine ⟨_, _, ?_, hys, h1.trans hys⟩
    rw [← Go.Deep.add_add, hcell, hv]
end
theorem bulkAll_app {H : Type} (a b : List (DataW H)) : Rows.uptoBulkAll (a ++ b) = Rows.uptoBulkAll a + Rows.uptoBulkAll b := by
  induction a with
  | nil => simp [Rows.uptoBulkAll]
  | cons x r ih => simp only [List.cons_append, Rows.uptoBulkAll, ih]; omega
theorem ops_in {H : Type} {enc : TypeId × Value → H} {base : Nat} {spare : Nat → Bool} {held : Bool} {fuel : Nat} {W : World} {a : Option Addr} {len cap : Nat} {x : DataW H × List MemPlace}
    (h : DataW.trod enc Tryd.prog W base spare held fuel 43 [.slice a len cap] = some x) :
    ∃ Q : List (Int × List Int × Int × Int), Q.length = len ∧ Scr W a cap Q ∧ tot (Q.map fun o => o.2.1) + Q.length + 1 ≤ Rows.uptoBulk x.1 := by
  rcases open_slice_fields Tryd.underlying43 Tryd.underlying47 (by kernel_rfl) (by kernel_rfl) h with ⟨hcs, hx⟩ | ⟨A, l, c, m, D, Pl, hcs, _, hl, hm, hmm, hx, hf⟩
  · simp at hcs
    obtain ⟨rfl, rfl, rfl⟩ := hcs
    exact ⟨[], rfl, ⟨fun _ h => by simp at h, by simp, by simp, fun h => by simp at h⟩, by have := bulk_one x.1; simp [tot]; omega⟩
  · simp at hcs
    obtain ⟨rfl, rfl, rfl⟩ := hcs
    have hlm : len ≤ m := by rw [hmm]; split <;> omega
    have each : ∀ i : Nat, i < len → ∃ o : Int × List Int × Int × Int, U8 o.2.1 ∧ W.cell? (A.add (i * 4)) = some (.int .i64 o.1) ∧ W.cell? (A.add (i * 4 + 1)) = some (str o.2.1) ∧ W.cell? (A.add (i * 4 + 2)) = some (.int .i64 o.2.2.1) ∧ W.cell? (A.add (i * 4 + 3)) = some (.int .i64 o.2.2.2) ∧ o.2.1.length + 5 ≤ Rows.uptoBulk (D i) := by
      intro i hi
      obtain ⟨ys, n, hD, _, hyl, hg⟩ := hf i (by omega)
      obtain ⟨v0, y0, c0, g0, t0⟩ := hg 0 _ rfl
      obtain ⟨v1, y1, c1, g1, t1⟩ := hg 1 _ rfl
      obtain ⟨v2, y2, c2, g2, t2⟩ := hg 2 _ rfl
      obtain ⟨v3, y3, c3, g3, t3⟩ := hg 3 _ rfl
      obtain ⟨n0, e0, f0, _⟩ := DataW.trod_int Tryd.underlying3 t0
      obtain ⟨s1, e1, f1, _⟩ := DataW.trod_string Tryd.underlying9 t1
      obtain ⟨n2, e2, f2, _⟩ := DataW.trod_int Tryd.underlying3 t2
      obtain ⟨n3, e3, f3, _⟩ := DataW.trod_int Tryd.underlying3 t3
      obtain ⟨rfl⟩ : v0 = .int .i64 n0 := by simpa using e0
      obtain ⟨rfl⟩ : v1 = .string s1 := by simpa using e1
      obtain ⟨rfl⟩ : v2 = .int .i64 n2 := by simpa using e2
      obtain ⟨rfl⟩ : v3 = .int .i64 n3 := by simpa using e3
      refine ⟨(n0, numsS s1, n2, n3), numsS_u8 s1, ?_, ?_, ?_, ?_, ?_⟩
      · exact c0
      · unfold str; rw [str_nums]; exact c1
      · exact c2
      · exact c3
      · match ys, hyl with
        | [z0, z1, z2, z3], _ =>
          simp at g0 g1 g2 g3
          subst g0 g1 g2 g3 f0 f1 f2 f3
          rw [hD]
          simp [Rows.uptoBulk, Rows.uptoBulkAll, numsS_len]
          try omega
    obtain ⟨F, hF⟩ : ∃ F : Nat → Int × List Int × Int × Int, ∀ i, i < len → U8 (F i).2.1 ∧ W.cell? (A.add (i * 4)) = some (.int .i64 (F i).1) ∧ W.cell? (A.add (i * 4 + 1)) = some (str (F i).2.1) ∧ W.cell? (A.add (i * 4 + 2)) = some (.int .i64 (F i).2.2.1) ∧ W.cell? (A.add (i * 4 + 3)) = some (.int .i64 (F i).2.2.2) ∧ (F i).2.1.length + 5 ≤ Rows.uptoBulk (D i) :=
      ⟨fun i => if hi : i < len then (each i hi).choose else (0, [], 0, 0), fun i hi => by simp only [hi, dif_pos]; exact (each i hi).choose_spec⟩
    refine ⟨(List.range len).map F, by simp, ⟨fun o ho => ?_, by simpa using hl, by unfold maxLen at hm; omega, fun hp => ?_⟩, ?_⟩
    · obtain ⟨i, hi, rfl⟩ := List.mem_map.1 ho
      exact (hF i (List.mem_range.1 hi)).1
    · simp at hp
      obtain ⟨b, off, spot⟩ := A
      have h0 := (hF 0 hp).2.1
      have hs : spot = none := by simpa [Addr.add] using World.cell?_spot h0
      subst hs
      refine ⟨b, off, rfl, fun j hj => ?_⟩
      simp at hj
      obtain ⟨_, q0, q1, q2, q3, _⟩ := hF j hj
      have hadd : ∀ k, (⟨b, off, none⟩ : Addr).add k = ⟨b, off + k, none⟩ := by intro k; unfold Addr.add; split <;> simp_all
      rw [hadd] at q0 q1 q2 q3
      simp only [List.getElem_map, List.getElem_range]
      exact ⟨q0, q1, q2, q3⟩
    · obtain rfl : x = _ := hx
      have hb : ∀ k, k ≤ len → tot (((List.range k).map F).map fun o => o.2.1) + k ≤ Rows.uptoBulkAll ((List.range k).map D) := by
        intro k
        induction k with
        | zero => intro _; simp [tot, Rows.uptoBulkAll]
        | succ k ih =>
          intro hk
          have := ih (by omega)
          have h5 := (hF k (by omega)).2.2.2.2.2
          rw [List.range_succ]
          simp only [List.map_append, List.map_cons, List.map_nil, bulkAll_app, Rows.uptoBulkAll]
          unfold tot at *
          simp only [List.map_append, List.map_cons, List.map_nil, List.sum_append, List.sum_cons, List.sum_nil]
          omega
      have := hb len (Nat.le_refl _)
      simp only [Rows.uptoBulk, List.length_map, List.length_range]
      omega
end Go.Proofs.YtmbifokiebjmmaaDoor
