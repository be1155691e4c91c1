import Derived.Test.YtbmdifeanocahaaDoorZ24
import Derived.Shelf.Bytes.SlSmallAll
import Derived.Lib.SliceRun
/- bytes.Clone, bytes.Equal, pss.Holds, by their contracts. -/
set_option linter.unusedVariables false
set_option linter.unusedSimpArgs false
namespace Go.Sg
open Go.RowKit
theorem byteOf_inj {x y : Int} (hx : 0 ≤ x ∧ x ≤ 255) (hy : 0 ≤ y ∧ y ≤ 255) (h : UInt8.ofNat x.toNat = UInt8.ofNat y.toNat) : x = y := by
  have h1 := congrArg UInt8.toNat h
  simp only [UInt8.toNat_ofNat'] at h1
  omega
theorem bytes_inj {xs ys : List Int} (ux : U8 xs) (uy : U8 ys) (h : xs.map (fun n => UInt8.ofNat n.toNat) = ys.map (fun n => UInt8.ofNat n.toNat)) : xs = ys := by
  have hl : xs.length = ys.length := by simpa using congrArg List.length h
  refine ext_nth _ _ hl fun i hi => byteOf_inj (ux i) (uy i) ?_
  have := congrArg (fun l => l[i]?) h
  simpa [nth, hi, hl ▸ hi] using this
theorem str_inj {xs ys : List Int} (ux : U8 xs) (uy : U8 ys) : (strOfNums xs = strOfNums ys) ↔ xs = ys := by
  constructor
  · intro h
    refine bytes_inj ux uy ?_
    have := congrArg (fun s : ByteArray => s.data.toList) h
    simpa [strOfNums] using this
  · rintro rfl; rfl
end Go.Sg
namespace Go.Proofs.YtbmdifeanocahaaDoor
open Go.RowKit Go.Sg

theorem conv_c (a : Option Addr) (cap : Nat) (xs : List Int) (w : World) (hx : Sl .u8 w a cap xs) : (convert 23 9 (.slice a xs.length cap)).run Tryd.prog w = .ok (.string (strOfNums xs)) w := by
  rcases Nat.eq_zero_or_pos xs.length with h | h
  · obtain rfl : xs = [] := List.eq_nil_of_length_eq_zero h
    exact run_convert_bytes_zero w 23 5 Tryd.underlying23 Tryd.underlying5 a cap 9 Tryd.underlying9
  · obtain ⟨b, off, rfl, hc⟩ := hx.cells h
    exact run_convert_bytes_arg (P := Tryd.prog) w 23 5 Tryd.underlying23 Tryd.underlying5 b off xs.length cap xs rfl (fun i hi => by rw [hc i hi, nth_get _ _ hi]; simp [List.getD, hi]) 9 Tryd.underlying9
theorem BEqual_c (a a' : Option Addr) (cap cap' : Nat) (xs ys : List Int) (w : World) (hx : Sl .u8 w a cap xs) (hy : Sl .u8 w a' cap' ys) (ux : U8 xs) (uy : U8 ys) :
    Calls Tryd.prog 43 #[.slice a xs.length cap, .slice a' ys.length cap'] w fun e w' => e = .returned (.bool (decide (xs = ys))) ∧ w = w' := by
  have h1 := conv_c a cap xs w hx
  have h2 := conv_c a' cap' ys w hy
  by_cases hxy : xs = ys
  · subst hxy
    have e : Hid (decide (xs = xs) = true) := Lib.hid (decide_eq_true rfl)
    obtain ⟨B, hB⟩ : ∃ B, B = decide (xs = xs) := ⟨_, rfl⟩
    rw [← hB] at e ⊢
    clear hB
    go_enter Tryd.func43, Tryd.ntmps43
    go_wp2_with fail
    go_ret
    exact ⟨by rw [e.out]; first | done | simp, rfl⟩
  · have g2 : ¬ (strOfNums xs).toList = (strOfNums ys).toList := fun h => hxy ((str_inj ux uy).1 (by
      rw [Lib.toList_data, Lib.toList_data] at h
      have h2 := Array.toList_inj.1 h
      unfold strOfNums at h2 ⊢
      rw [ByteArray.mk.injEq]
      exact h2))
    have e : Hid (decide (xs = ys) = false) := Lib.hid (decide_eq_false hxy)
    clear hxy
    go_enter Tryd.func43, Tryd.ntmps43
    go_wp2_with fail
    go_ret
    exact ⟨by rw [e.out]; first | done | simp [g2], rfl⟩
theorem New.zero {B g : Nat} {E : TypeId} {w : World} (hg : B ≤ g) (h : w.heap[g]? = some (.cells #[] E (0, 0))) : New B .u8 E w (.slice (some ⟨g, 0, none⟩) 0 0) [] :=
  .inr ⟨g, 0, #[], rfl, hg, h, by simp, by simp, by omega, by simp⟩
set_option maxHeartbeats 2000000 in
theorem Clone_c (A : Addr) (cap : Nat) (xs : List Int) (w : World) (hx : Sl .u8 w (some A) cap xs) (hl : xs.length ≤ 140737488350000) :
    Calls Tryd.prog 87 #[.slice (some A) xs.length cap] w (BytesPost xs w) := by
  have q := fun (w : World) (a : Option Addr) (n c n' c' : Nat) => Lib.run_eql_slice_nil (P := Tryd.prog) w 23 5 a n c n' c' Tryd.underlying23
  have hx1 := hx.below ((Below.refl w.heap.size w).alloc (Nat.le_refl _) (.cells #[] 5))
  have n0 : New w.heap.size .u8 5 (w.alloc (.cells #[] 5)) (.slice (some ⟨w.heap.size, 0, none⟩) 0 0) [] := New.zero (Nat.le_refl _) (Go.heap_alloc_new w _)
  go_enter Tryd.func87, Tryd.ntmps87
  go_wp2_with (at_builtin; refine wpList_append_new _ rfl _ _ 23 rfl w.heap.size 5 .u8 1 Tryd.underlying23 info8s _ [] rfl n0 _ _ _ xs rfl rfl hx1.cells (by simp; omega) (by simp; omega) (by simp) ?_)
  intro v1 w1 n1 g1 _
  have hb1 : Below w.heap.size w w1 := ((Below.refl w.heap.size w).alloc (Nat.le_refl _) _).grown g1 (by simp) fun g hg => by simp [Value.ownBlock] at hg; omega
  clear n0 g1
  go_wp2_with fail
  go_ret
  exact ⟨v1, rfl, n1, hb1⟩
end Go.Proofs.YtbmdifeanocahaaDoor
