/- A slice of steps (int, int, bytes) that came in, as the contracts read it; what the bound gives. -/
import Derived.Test.YtnlmkikaaifcmaaDoorOpen
import Derived.Test.YtnlmkikaaifcmaaDoorPlayC
import Derived.Deep.Slices
import Derived.Deep.Fields
import Derived.ChangeSame
set_option linter.unusedVariables false
set_option linter.unusedSimpArgs false
namespace Go.Proofs.YtnlmkikaaifcmaaDoor
open Go.ChangeShapes Go.WideShapes Go.ChangeAt Go.RowKit Go.Sg Go.Deep
section
variable {H : Type} {enc : TypeId × Value → H} {P : Program} {w : World} {base : Nat} {spare : Nat → Bool} {held : Bool}
theorem open_slice_fields {t e : TypeId} {fs : Array Field} {fuel : Nat} {cs : List Value} {x : DataW H × List MemPlace} (ht : P.underlying t = some (.slice e)) (he : P.underlying e = some (.struct fs))
    (hone : oneCellFields P fs = true) (hC : P.cellsOf e = fs.size) (h : DataW.trod enc P w base spare held fuel t cs = some x) :
    (cs = [.slice none 0 0] ∧ x = (.nil, [])) ∨
    ∃ (a : Addr) (len cap m : Nat) (D : Nat → DataW H) (Pl : Nat → List MemPlace), cs = [.slice (some a) len cap] ∧ base ≤ a.block ∧ len ≤ cap ∧ cap ≤ maxLen ∧ m = (if spare a.block then cap else len) ∧
      x = (.slice ((List.range len).map D) ((List.range (m - len)).map fun j => D (len + j)), MemPlace.row a (m * fs.size) ++ (List.range m).flatMap Pl) ∧
      ∀ i, i < m → ∃ (ys : List (DataW H × List MemPlace)) (n : Nat), D i = .agg (ys.map (·.1)) ∧ Pl i = ys.flatMap (·.2) ∧ ys.length = fs.size ∧
        ∀ (j : Nat) (f : Field), fs[j]? = some f → ∃ (v : Value) (y : DataW H × List MemPlace), w.cell? (a.add (i * fs.size + j)) = some v ∧ ys[j]? = some y ∧ DataW.trod enc P w base spare held n f.type [v] = some y := by
  rcases open_slice ht h with h0 | ⟨a, len, cap, m, n, D, Pl, hcs, hb, hl, hm, hmm, hx, hi⟩
  · exact .inl h0
  · refine .inr ⟨a, len, cap, m, D, Pl, hcs, hb, hl, hm, hmm, by rw [hC] at hx; exact hx, fun i him => ?_⟩
    obtain ⟨cs', hc, ht'⟩ := hi i him
    rw [hC] at hc
    obtain ⟨ys, n', hn', hy, hlen, hyl, hf⟩ := DataW.trod_struct he ht'
    obtain ⟨_, hcl, hat⟩ := World.cells?_some hc
    simp only [Prod.mk.injEq] at hy
    refine ⟨ys, n', hy.1, hy.2, hyl, fun j f hj => ?_⟩
    obtain ⟨ho, hk⟩ := hone_of hone j f hj
    have hjl : j < fs.size := (Array.getElem?_eq_some_iff.1 hj).1
    have hcell := hat j hjl
    have hv : cs'[j]? = some (cs'[j]'(by omega)) := List.getElem?_eq_getElem (by omega)
    have h1 := hf j f hj
    rw [ho, hk] at h1
    have hone' : (cs'.drop j).take 1 = [cs'[j]'(by omega)] := by
      rw [List.drop_eq_getElem_cons (by omega)]
      rfl
    rw [hone'] at h1
    have hys : ys[j]? = some (ys[j]'(by omega)) := List.getElem?_eq_getElem (by omega)
    refine ⟨_, _, ?_, hys, h1.trans hys⟩
    rw [← Go.Deep.add_add, hcell, hv]
end
theorem bulk_mem {H : Type} {d : DataW H} : ∀ {l : List (DataW H)}, d ∈ l → Rows.uptoBulk d ≤ Rows.uptoBulkAll l
  | x :: r, h => by
    simp only [Rows.uptoBulkAll]
    rcases List.mem_cons.1 h with rfl | h
    · omega
    · have := bulk_mem h
      omega
theorem bulk_len2 {H : Type} (l : List (DataW H)) : l.length ≤ Rows.uptoBulkAll l := by
  induction l with
  | nil => simp
  | cons x r ih => have := bulk_one x; simp only [List.length_cons, Rows.uptoBulkAll]; omega
theorem play_in {H : Type} {enc : TypeId × Value → H} {base : Nat} {held : Bool} {fuel : Nat} {W : World} {a : Option Addr} {len cap : Nat} {x : DataW H × List MemPlace}
    (h : DataW.trod enc Tryd.prog W base (fun _ => true) held fuel 23 [.slice a len cap] = some x) :
    ∃ Q : List (Int × Int × Part), Q.length = len ∧ PScr W a cap Q ∧ Q.length + 1 ≤ Rows.uptoBulk x.1 ∧ ∀ o ∈ Q, o.2.2.xs.length + 1 ≤ Rows.uptoBulk x.1 := by
  rcases open_slice_fields Tryd.underlying23 Tryd.underlying31 (by kernel_rfl) (by kernel_rfl) h with ⟨hcs, hx⟩ | ⟨A, l, c, m, D, Pl, hcs, _, hl, hm, hmm, hx, hf⟩
  · simp at hcs
    obtain ⟨rfl, rfl, rfl⟩ := hcs
    exact ⟨[], rfl, ⟨fun _ h => by simp at h, fun _ h => by simp at h, fun _ h => by simp at h, by simp, by simp, fun h => by simp at h⟩, by have := bulk_one x.1; simp; omega, fun _ h => by simp at h⟩
  · simp at hcs
    obtain ⟨rfl, rfl, rfl⟩ := hcs
    have hlm : len ≤ m := by rw [hmm]; split <;> omega
    have each : ∀ i : Nat, i < len → ∃ o : Int × Int × Part, Sl .u8 W o.2.2.a o.2.2.cap o.2.2.xs ∧ U8 o.2.2.xs ∧ (-9223372036854775808 ≤ o.2.1 ∧ o.2.1 ≤ 9223372036854775807) ∧ W.cell? (A.add (i * 3)) = some (.int .i64 o.1) ∧ W.cell? (A.add (i * 3 + 1)) = some (.int .i64 o.2.1) ∧ W.cell? (A.add (i * 3 + 2)) = some o.2.2.val ∧ o.2.2.xs.length + 1 ≤ Rows.uptoBulk (D i) := by
      intro i hi
      obtain ⟨ys, n, hD, _, hyl, hg⟩ := hf i (by omega)
      obtain ⟨v0, y0, c0, g0, t0⟩ := hg 0 _ rfl
      obtain ⟨v1, y1, c1, g1, t1⟩ := hg 1 _ rfl
      obtain ⟨v2, y2, c2, g2, t2⟩ := hg 2 _ rfl
      obtain ⟨n0, e0, f0, _⟩ := DataW.trod_int Tryd.underlying3 t0
      obtain ⟨n1, e1, f1, r1⟩ := DataW.trod_int Tryd.underlying3 t1
      obtain ⟨rfl⟩ : v0 = .int .i64 n0 := by simpa using e0
      obtain ⟨rfl⟩ : v1 = .int .i64 n1 := by simpa using e1
      have rg : -9223372036854775808 ≤ n1 ∧ n1 ≤ 9223372036854775807 := by simpa [Lit.wf, IntKind.min, IntKind.max, IntKind.signed, IntKind.bits] using r1
      obtain ⟨pa, pl, pc, zs, rfl, wz, lz⟩ : ∃ pa pl pc zs, v2 = .slice pa pl pc ∧ IsRow .u8 W pa pl pc zs ∧ pl + 1 ≤ Rows.uptoBulk y2.1 := by
        rcases open_ints Tryd.underlying29 Tryd.underlying5 (by kernel_rfl) t2 with ⟨hcs, hx⟩ | ⟨x, l, c, zs, hcs, _, hl, hm, hz, hx, hcell, hwz⟩
        · simp at hcs
          exact ⟨none, 0, 0, [], hcs, .inl ⟨rfl, rfl, rfl, rfl⟩, by have := bulk_one y2.1; omega⟩
        · simp at hcs
          refine ⟨some x, l, c, zs, hcs, .inr ⟨_, rfl, hl, hm, by simpa using hz, hcell, hwz⟩, ?_⟩
          have hd : y2.1 = _ := congrArg Prod.fst hx
          rw [hd]
          refine Nat.le_trans ?_ (bulk_slice _ _)
          simp only [lits, List.length_map, List.length_take, List.length_drop]
          simp at hz
          omega
      have el := wz.len
      have es := wz.sl
      refine ⟨(n0, n1, ⟨pa, pc, zs.take pl⟩), es, wz.u8, rg, ?_, ?_, ?_, ?_⟩
      · exact c0
      · exact c1
      · show _ = some (Value.slice pa (zs.take pl).length pc)
        rw [el]
        exact c2
      · show (zs.take pl).length + 1 ≤ _
        rw [el]
        match ys, hyl with
        | [z0, z1, z2], _ =>
          simp at g0 g1 g2
          subst g0 g1 g2
          rw [hD]
          simp only [Rows.uptoBulk, Rows.uptoBulkAll, List.map_cons, List.map_nil]
          omega
    obtain ⟨F, hF⟩ : ∃ F : Nat → Int × Int × Part, ∀ i, i < len → Sl .u8 W (F i).2.2.a (F i).2.2.cap (F i).2.2.xs ∧ U8 (F i).2.2.xs ∧ (-9223372036854775808 ≤ (F i).2.1 ∧ (F i).2.1 ≤ 9223372036854775807) ∧ W.cell? (A.add (i * 3)) = some (.int .i64 (F i).1) ∧ W.cell? (A.add (i * 3 + 1)) = some (.int .i64 (F i).2.1) ∧ W.cell? (A.add (i * 3 + 2)) = some (F i).2.2.val ∧ (F i).2.2.xs.length + 1 ≤ Rows.uptoBulk (D i) :=
      ⟨fun i => if hi : i < len then (each i hi).choose else (0, 0, ⟨none, 0, []⟩), fun i hi => by simp only [hi, dif_pos]; exact (each i hi).choose_spec⟩
    have mem : ∀ {o}, o ∈ (List.range len).map F → ∃ i, i < len ∧ F i = o := fun ho => by
      obtain ⟨i, hi, e⟩ := List.mem_map.1 ho
      exact ⟨i, List.mem_range.1 hi, e⟩
    obtain rfl : x = _ := hx
    refine ⟨(List.range len).map F, by simp, ⟨fun o ho => ?_, fun o ho => ?_, fun o ho => ?_, by simpa using hl, by unfold maxLen at hm; omega, fun hp => ?_⟩, ?_, fun o ho => ?_⟩
    · obtain ⟨i, hi, rfl⟩ := mem ho; exact (hF i hi).1
    · obtain ⟨i, hi, rfl⟩ := mem ho; exact (hF i hi).2.1
    · obtain ⟨i, hi, rfl⟩ := mem ho; exact (hF i hi).2.2.1
    · simp at hp
      obtain ⟨b, off, spot⟩ := A
      have h0 := (hF 0 hp).2.2.2.1
      have hs : spot = none := by simpa [Addr.add] using World.cell?_spot h0
      subst hs
      refine ⟨b, off, rfl, fun j hj => ?_⟩
      simp at hj
      obtain ⟨_, _, _, q0, q1, q2, _⟩ := hF j hj
      have hadd : ∀ k, (⟨b, off, none⟩ : Addr).add k = ⟨b, off + k, none⟩ := by intro k; unfold Addr.add; split <;> simp_all
      rw [hadd] at q0 q1 q2
      simp only [List.getElem_map, List.getElem_range]
      exact ⟨q0, q1, q2⟩
    · have := bulk_slice ((List.range len).map D) ((List.range (m - len)).map fun j => D (len + j))
      simp only [List.length_map, List.length_range] at this ⊢
      omega
    · obtain ⟨i, hi, rfl⟩ := mem ho
      have h1 := (hF i hi).2.2.2.2.2.2
      have h2 : Rows.uptoBulk (D i) ≤ Rows.uptoBulkAll ((List.range len).map D) := bulk_mem (List.mem_map.2 ⟨i, List.mem_range.2 hi, rfl⟩)
      simp only [Rows.uptoBulk]
      omega
end Go.Proofs.YtnlmkikaaifcmaaDoor
