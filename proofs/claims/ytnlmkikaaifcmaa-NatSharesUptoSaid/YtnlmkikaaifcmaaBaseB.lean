/- The law of copy into a row of the call's own. -/
import Derived.Test.YtnlmkikaaifcmaaBase
import Derived.Laws.CopyOwn
set_option linter.unusedVariables false
set_option linter.unusedSimpArgs false
namespace Go.Sg
open Go.RowKit

/-! ### copy -/
theorem wpList_copy_blk {P : Program} {w : World} {ops : Array Oper} {rest : List Oper} {o : Oper} {a : Act} {Q : Exit → Act → World → Prop} (hgd : o.guard = none) (d s : Operand) (dT sT : TypeId)
    (ho : o.op = .call { callee := .builtin .copy, args := #[d, s], argTypes := #[dT, sT] }) (E : TypeId) (hu : P.underlying dT = some (.slice E)) (hsz : (P.info? E).map (·.size) = some 1)
    (da : Option Addr) (g off dn dc : Nat) (ad : Option Addr) (sn sc : Nat) (hd : a.eval d = .slice da dn dc) (hs : a.eval s = .slice ad sn sc) (k : IntKind) (L ys : List Int) (hB : Blk w g k E L) (hy : Cells k w ad ys) (hyn : ys.length = sn)
    (hda : 0 < dn → 0 < sn → da = some ⟨g, off, none⟩) (hfit : off + min sn dn ≤ L.length)
    (h : ∀ w', Blk w' g k E (L.take off ++ (ys.take dn ++ L.drop (off + min sn dn))) → w.grownBy w' (some g) → w'.heap.size = w.heap.size → wpList P ops Q rest (a.put o.dst (.int .i64 ((min sn dn : Nat) : Int))) w') : wpList P ops Q (o :: rest) a w := by
  refine wpList_plain hgd fun K hK => ?_
  by_cases h0 : min sn dn = 0
  · have hrun := run_copy_none (P := P) w dT sT o.type E da ad dn dc sn sc hu hsz h0
    unfold Oper.wp
    simp [execOp, ho, resolve, invoke, builtin, hd, hs, hrun, Result.andThen]
    refine hK _ _ ?_
    have e : L.take off ++ (ys.take dn ++ L.drop (off + min sn dn)) = L := by
      have : ys.take dn = [] := by apply List.eq_nil_of_length_eq_zero; rw [List.length_take, hyn]; omega
      rw [this, h0]; simp
    have := h w (by rw [e]; exact hB) ⟨rfl, rfl, rfl, Nat.le_refl _, fun _ _ _ => rfl⟩ rfl
    rw [h0] at this
    exact this
  · obtain rfl := hda (by omega) (by omega)
    obtain ⟨b, oy, rfl, hc⟩ := hy (by omega)
    have hrun := run_copy_row (P := P) w dT sT o.type E g off dn dc ⟨b, oy, none⟩ sn sc (L.map (Value.int k)).toArray E ((ys.take dn).map (Value.int k)) hu hsz hB
      (by simp [hyn, Nat.min_comm]) (by
        intro j v hv
        have hadd : (⟨b, oy, none⟩ : Addr).add j = ⟨b, oy + j, none⟩ := by unfold Addr.add; split <;> simp_all
        rw [List.getElem?_map, Option.map_eq_some_iff] at hv
        obtain ⟨y, hy1, rfl⟩ := hv
        rw [List.getElem?_take] at hy1
        split at hy1
        · obtain ⟨hj, hje⟩ := List.getElem?_eq_some_iff.1 hy1
          rw [hadd, hc j hj, nth_get _ _ hj, hje]
        · cases hy1) (by simp [hyn, Nat.min_comm]; simpa [Nat.min_comm] using hfit) (by
        intro v hv
        obtain ⟨y, _, rfl⟩ := List.mem_map.1 hv
        rfl)
    unfold Oper.wp
    simp only [execOp, ho, resolve, invoke, builtin, Sem.run_bind, Sem.run_pure, Result.andThen_ok, List.map_toArray, List.map_cons, List.map_nil, hd, hs, hrun]
    have hl : ((ys.take dn).map (Value.int k)).length = min sn dn := by simp [hyn, Nat.min_comm]
    rw [hl]
    refine hK _ _ (h _ ?_ ⟨rfl, rfl, rfl, by simp, fun j _ hk => setRow_other w g j _ (fun ee => hk (by simp [ee]))⟩ (by simp))
    have := setRow_heap w g (L.map (Value.int k)).toArray ((((L.map (Value.int k)).toArray.toList.take off) ++ ((ys.take dn).map (Value.int k) ++ (L.map (Value.int k)).toArray.toList.drop (off + min sn dn))).toArray) E (0, 0) hB
    rw [Blk]
    simpa [List.map_append, List.map_take, List.map_drop] using this

theorem Sl.grown' {k : IntKind} {w w' : World} {a : Option Addr} {cap : Nat} {xs : List Int} {row : Option Nat} (h : Sl k w a cap xs) (hg : w.grownBy w' row) (hne : ∀ b off, a = some ⟨b, off, none⟩ → 0 < xs.length → some b ≠ row) : Sl k w' a cap xs := by
  refine ⟨h.le, h.max, fun hp => ?_⟩
  obtain ⟨b, off, rfl, hc⟩ := h.cells hp
  refine ⟨b, off, rfl, fun j hj => ?_⟩
  rw [World.cell?_of_block (w := w) (hg.block b (World.block_lt_of_cell? w _ (hc j hj)) (hne b off rfl hp))]
  exact hc j hj
/-- What came in lies below what is made now. -/
theorem Sl.apart {k : IntKind} {w : World} {a : Option Addr} {cap : Nat} {xs : List Int} (h : Sl k w a cap xs) {g : Nat} (hg : w.heap.size ≤ g) : ∀ b off, a = some ⟨b, off, none⟩ → 0 < xs.length → b ≠ g := by
  rintro b off rfl hp e
  have := h.cells.lt hp
  omega
theorem Sl.apart' {k : IntKind} {w : World} {a : Option Addr} {cap : Nat} {xs : List Int} (h : Sl k w a cap xs) {g : Nat} (hg : w.heap.size ≤ g) : ∀ b off, a = some ⟨b, off, none⟩ → 0 < xs.length → some b ≠ some g := by
  intro b off ha hp e
  exact h.apart hg b off ha hp (Option.some.inj e)
end Go.Sg
