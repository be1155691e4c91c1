/- append to a slice of the call's own: the slice that it began with reads as before, too. -/
import Derived.Test.YtnlmkikaaifcmaaBaseB
set_option linter.unusedVariables false
set_option linter.unusedSimpArgs false
namespace Go.Sg
open Go.RowKit
theorem run_append_keep {P : Program} (w : World) (B : Nat) (t ty e : TypeId) (k : IntKind) (bytes : Nat) (ht : P.underlying t = some (.slice e)) (hi : (P.info? e).map (fun i => (i.zero, i.size, i.bytes)) = some (some (.int k 0), 1, bytes))
    (v : Value) (xs : List Int) (hv : New B k e w v xs) (a : Option Addr) (c : Nat) (ys : List Int) (hy : Cells k w a ys) (hm : xs.length + ys.length ≤ 9223372036854775807) (hbytes : (xs.length + ys.length) * bytes ≤ 140737488355328) (hB : B ≤ w.heap.size) :
    ∃ v' w', (Builtin.append_ #[t, t] ty #[v, .slice a ys.length c]).run P w = .ok v' w' ∧ New B k e w' v' (xs ++ ys) ∧ New B k e w' v xs ∧ w.grownBy w' v.ownBlock ∧ (v'.ownBlock = v.ownBlock ∨ ∃ g, v'.ownBlock = some g ∧ w.heap.size ≤ g) := by
  obtain ⟨i, hi0, hz, hs, hby⟩ := info1 hi
  by_cases h0 : ys.length = 0
  · obtain rfl : ys = [] := List.eq_nil_of_length_eq_zero h0
    refine ⟨v, w, ?_, by simpa using hv, hv, ⟨rfl, rfl, rfl, Nat.le_refl _, fun _ _ _ => rfl⟩, .inl rfl⟩
    have hf : (Builtin.firstCells 1 0 (.slice a 0 c)).run P w = .ok #[] w := by
      cases a with
      | none => simp [Builtin.firstCells]
      | some ad => exact run_firstCells_some w 1 0 ad 0 c [] (by simp) (by simp)
    rcases hv with ⟨rfl, rfl⟩ | ⟨g, cap, cs, rfl, _, _, hnc, _⟩
    · simp [Builtin.append_, run_underlying ht, sizeOf, typeInfo, hi0, hs, Builtin.lenOf, hf]
    · simp [Builtin.append_, run_underlying ht, sizeOf, typeInfo, hi0, hs, Builtin.lenOf, hf, hnc, storeCells]
  · obtain ⟨b, off, rfl, hc⟩ := hy (by omega)
    have hnews : ∀ (j : Nat) (u : Value), (ys.map (Value.int k))[j]? = some u → w.cell? ((⟨b, off, none⟩ : Addr).add j) = some u := by
      intro j u hu
      have hadd : (⟨b, off, none⟩ : Addr).add j = ⟨b, off + j, none⟩ := by unfold Addr.add; split <;> simp_all
      rw [List.getElem?_map, Option.map_eq_some_iff] at hu
      obtain ⟨y, hy1, rfl⟩ := hu
      obtain ⟨hj, hje⟩ := List.getElem?_eq_some_iff.1 hy1
      rw [hadd, hc j hj, nth_get _ _ hj, hje]
    have h1 : ∀ u ∈ ys.map (Value.int k), u.oneCell' = true := by
      intro u hu
      obtain ⟨y, _, rfl⟩ := List.mem_map.1 hu
      rfl
    by_cases hroom : ∃ g cap cs, v = .slice (some ⟨g, 0, none⟩) xs.length cap ∧ w.heap[g]? = some (.cells cs e (0, 0)) ∧ B ≤ g ∧ xs.length + ys.length ≤ cap ∧ cap ≤ cs.size ∧ cap ≤ 9223372036854775807 ∧ cs.toList.take xs.length = xs.map (Value.int k)
    · obtain ⟨g, cap, cs, rfl, hh, hbg, hrm, hcs, hcm, htake⟩ := hroom
      have hr := run_append_room (P := P) w t ty e i ht hi0 g xs.length cap cs hh ⟨b, off, none⟩ ys.length c (ys.map (Value.int k)) (by simp [hs]) hnews h1 hrm (by simp [hs]; omega)
      refine ⟨_, _, hr, .inr ⟨g, cap, _, by simp, hbg, setRow_heap w g cs _ e _ hh, by simpa using hrm, ?_, hcm, ?_⟩, .inr ⟨g, cap, _, rfl, hbg, setRow_heap w g cs _ e _ hh, by omega, ?_, hcm, ?_⟩, ⟨rfl, rfl, rfl, by simp, fun j _ hk => setRow_other w g j _ (fun ee => hk (by simp [Value.ownBlock, ee]))⟩, .inl rfl⟩
      · simp [hs]; omega
      · simp only [hs, Nat.mul_one, List.length_append, List.map_append]
        rw [htake]
        apply List.take_left'
        simp
      · simp [hs]; omega
      · simp only [hs, Nat.mul_one]
        rw [htake, List.append_assoc]
        apply List.take_left'
        simp
    · obtain ⟨v', w', hr, h2, h3, h4⟩ := run_append_new (P := P) w B t ty e k bytes ht hi v xs hv (some ⟨b, off, none⟩) c ys hy hm hbytes hB
      have grow : w.grownBy w' none := by
        rcases hv with ⟨rfl, rfl⟩ | ⟨g, cap, cs, rfl, hbg, hh, hnc, hcs, hcm, htake⟩
        · have : (Value.slice none 0 0).ownBlock = none := rfl
          rw [this] at h3; exact h3
        · have hn : ¬ xs.length + ys.length ≤ cap := fun hr => hroom ⟨g, cap, cs, rfl, hh, hbg, hr, hcs, hcm, htake⟩
          have holds : ∀ (j : Nat) (u : Value), (xs.map (Value.int k))[j]? = some u → w.cell? ((⟨g, 0, none⟩ : Addr).add j) = some u := by
            intro j u hu
            have hadd : (⟨g, 0, none⟩ : Addr).add j = ⟨g, j, none⟩ := by unfold Addr.add; split <;> simp_all
            rw [hadd, cell_of_row w g j cs e (0, 0) hh]
            rw [← htake, List.getElem?_take] at hu
            split at hu
            · simpa using hu
            · cases hu
          have hr2 := run_append_grow (P := P) w t ty e i (.int k 0) ht hi0 hz ⟨g, 0, none⟩ xs.length cap (xs.map (Value.int k)) (by simp [hs]) holds ⟨b, off, none⟩ ys.length c (ys.map (Value.int k)) (by simp [hs]) hnews (by omega) (by omega) (growslice_fits (by omega) (by rw [hby]; exact hbytes))
          rw [hr] at hr2
          simp only [Result.ok.injEq] at hr2
          obtain ⟨_, rfl⟩ := hr2
          exact ⟨rfl, rfl, rfl, by simp, fun j hj _ => Below.heap_alloc w.drew _ j hj⟩
      exact ⟨v', w', hr, h2, hv.kept grow (by cases hb : v.ownBlock <;> simp), h3, h4⟩

theorem wpList_append_keep {P : Program} (w : World) {ops : Array Oper} {rest : List Oper} {o : Oper} {a : Act} {Q : Exit → Act → World → Prop} (hgd : o.guard = none) (s x : Operand) (t : TypeId)
    (ho : o.op = .call { callee := .builtin .append, args := #[s, x], argTypes := #[t, t] }) (B : Nat) (e : TypeId) (k : IntKind) (bytes : Nat) (ht : P.underlying t = some (.slice e))
    (hi : (P.info? e).map (fun i => (i.zero, i.size, i.bytes)) = some (some (.int k 0), 1, bytes)) (v : Value) (xs : List Int) (hs : a.eval s = v) (hv : New B k e w v xs)
    (ad : Option Addr) (c n : Nat) (ys : List Int) (hx : a.eval x = .slice ad n c) (hn : n = ys.length) (hy : Cells k w ad ys) (hm : xs.length + ys.length ≤ 9223372036854775807) (hbytes : (xs.length + ys.length) * bytes ≤ 140737488355328) (hB : B ≤ w.heap.size)
    (h : ∀ v' w', New B k e w' v' (xs ++ ys) → New B k e w' v xs → w.grownBy w' v.ownBlock → (v'.ownBlock = v.ownBlock ∨ ∃ g, v'.ownBlock = some g ∧ w.heap.size ≤ g) → wpList P ops Q rest (a.put o.dst v') w') : wpList P ops Q (o :: rest) a w := by
  subst hn
  refine wpList_plain hgd fun K hK => ?_
  obtain ⟨v', w', hr, h2, h2', h3, h4⟩ := run_append_keep (P := P) w B t o.type e k bytes ht hi v xs hv ad c ys hy hm hbytes hB
  unfold Oper.wp execOp
  simp only [ho, resolve, invoke, builtin, Sem.run_bind, Sem.run_pure, Result.andThen_ok, List.map_toArray, List.map_cons, List.map_nil, hs, hx, hr]
  exact hK _ _ (h v' w' h2 h2' h3 h4)
end Go.Sg
