import Derived.Test.YtmbifokiebjmmaaDoorZ11
import Derived.Test.YtmbifokiebjmmaaDoorZ17
import Derived.Test.YtmbifokiebjmmaaDoorZ1
import Derived.SliceStrings
import Derived.ChangeMaps5
/- Strings and slices of strings that came in, as the contracts read them; what the bound gives. -/
set_option linter.unusedVariables false
set_option linter.unusedSimpArgs false
namespace Go.Proofs.YtmbifokiebjmmaaDoor
open Go.ChangeShapes Go.WideShapes Go.ChangeAt Go.RowKit Go.Sg

theorem numsS_len (s : ByteArray) : (numsS s).length = s.data.toList.length := by unfold numsS; rw [List.length_map]
theorem bulk_strs {H : Type} : ∀ ss : List ByteArray, tot (ss.map numsS) + ss.length = Rows.uptoBulkAll (strs (H := H) ss)
  | [] => by simp [tot, strs, Rows.uptoBulkAll]
  | s :: ss => by
    have ih := bulk_strs (H := H) ss
    unfold tot strs at *
    simp only [List.map_cons, List.sum_cons, List.length_cons, Rows.uptoBulkAll, Rows.uptoBulk, numsS_len]
    omega
theorem strs_in {H : Type} (W : World) (x : Addr) (len cap : Nat) (ss : List ByteArray) (hl : len ≤ cap) (hm : cap ≤ maxLen) (hss : ss.length = cap)
    (hc : ∀ i, i < ss.length → W.cell? (x.add i) = some (.string (ss.getD i ByteArray.empty))) (d : DataW H) (hd : d = .slice (strs (ss.take len)) (strs (ss.drop len))) :
    ∃ Q : List (List Int), Q.length = len ∧ Ss W (some x) cap Q ∧ tot Q + Q.length + 1 ≤ Rows.uptoBulk d := by
  have ht : (ss.take len).length = len := by rw [List.length_take]; omega
  refine ⟨(ss.take len).map numsS, by rw [List.length_map, ht], ⟨fun s hs => ?_, by rw [List.length_map, ht]; exact hl, by unfold maxLen at hm; omega, fun hp => ?_⟩, ?_⟩
  · obtain ⟨b, _, rfl⟩ := List.mem_map.1 hs
    exact numsS_u8 b
  · rw [List.length_map, ht] at hp
    obtain ⟨b, off, spot⟩ := x
    have h0 := hc 0 (by omega)
    have hs : spot = none := by simpa [Addr.add] using World.cell?_spot h0
    subst hs
    refine ⟨b, off, rfl, fun j hj => ?_⟩
    rw [List.length_map, ht] at hj
    have hcj := hc j (by omega)
    have hadd : (⟨b, off, none⟩ : Addr).add j = ⟨b, off + j, none⟩ := by unfold Addr.add; split <;> simp_all
    rw [hadd] at hcj
    rw [hcj, List.getElem_map, List.getElem_take]
    unfold str
    rw [str_nums, List.getD_eq_getElem?_getD, List.getElem?_eq_getElem (by omega)]
    rfl
  · rw [hd]
    have h1 := bulk_strs (H := H) (ss.take len)
    rw [List.length_map]
    simp only [Rows.uptoBulk]
    omega
end Go.Proofs.YtmbifokiebjmmaaDoor
