import Derived.Test.YtlolkighnnedfaaDoorZ9
import Derived.Test.YtlolkighnnedfaaDoorZ7
import Derived.BigRegion
import Derived.Deep.LoopGhost
import Derived.Shelf.Bytes.SlSmallAll
import Derived.Lib.SliceRun
/- bytes.Clone, bytes.Equal, slices.Reverse of bytes, by their contracts (without package sha). -/
set_option linter.unusedVariables false
set_option linter.unusedSimpArgs false
namespace Go.Sg
open Go.RowKit
theorem byteOf_inj {x y : Int} (hx : 0 ≤ x ∧ x ≤ 255) (hy : 0 ≤ y ∧ y ≤ 255) (h : UInt8.ofNat x.toNat = UInt8.ofNat y.toNat) : x = y := by
  have h1 := congrArg UInt8.toNat h
  simp only [UInt8.toNat_ofNat'] at h1
  omega
theorem bytes_inj {xs ys : List Int} (ux : U8 xs) (uy : U8 ys) (h : xs.map (fun n => UInt8.ofNat n.toNat) = ys.map (fun n => UInt8.ofNat n.toNat)) : xs = ys := by
  have hl : xs.length = ys.length := by simpa using congrArg List.length h
  refine ext_nth _ _ hl fun i hi => byteOf_inj (ux i) (uy i) ?_
  have := congrArg (fun l => l[i]?) h
  simpa [nth, hi, hl ▸ hi] using this
theorem str_inj {xs ys : List Int} (ux : U8 xs) (uy : U8 ys) : (strOfNums xs = strOfNums ys) ↔ xs = ys := by
  constructor
  · intro h
    refine bytes_inj ux uy ?_
    have := congrArg (fun s : ByteArray => s.data.toList) h
    simpa [strOfNums] using this
  · rintro rfl; rfl
end Go.Sg
namespace Go.Proofs.YtlolkighnnedfaaDoor
open Go.RowKit Go.Sg

theorem conv_c (a : Option Addr) (cap : Nat) (xs : List Int) (w : World) (hx : Sl .u8 w a cap xs) : (convert 22 9 (.slice a xs.length cap)).run Tryd.prog w = .ok (.string (strOfNums xs)) w := by
  rcases Nat.eq_zero_or_pos xs.length with h | h
  · obtain rfl : xs = [] := List.eq_nil_of_length_eq_zero h
    exact run_convert_bytes_zero w 22 5 Tryd.underlying22 Tryd.underlying5 a cap 9 Tryd.underlying9
  · obtain ⟨b, off, rfl, hc⟩ := hx.cells h
    exact run_convert_bytes_arg (P := Tryd.prog) w 22 5 Tryd.underlying22 Tryd.underlying5 b off xs.length cap xs rfl (fun i hi => by rw [hc i hi, nth_get _ _ hi]; simp [List.getD, hi]) 9 Tryd.underlying9
theorem BEqual_c (a a' : Option Addr) (cap cap' : Nat) (xs ys : List Int) (w : World) (hx : Sl .u8 w a cap xs) (hy : Sl .u8 w a' cap' ys) (ux : U8 xs) (uy : U8 ys) :
    Calls Tryd.prog 66 #[.slice a xs.length cap, .slice a' ys.length cap'] w fun e w' => e = .returned (.bool (decide (xs = ys))) ∧ w = w' := by
  have h1 := conv_c a cap xs w hx
  have h2 := conv_c a' cap' ys w hy
  by_cases hxy : xs = ys
  · subst hxy
    have e : Hid (decide (xs = xs) = true) := Lib.hid (decide_eq_true rfl)
    obtain ⟨B, hB⟩ : ∃ B, B = decide (xs = xs) := ⟨_, rfl⟩
    rw [← hB] at e ⊢
    clear hB
    go_enter Tryd.func66, Tryd.ntmps66
    go_wp2_with fail
    go_ret
    exact ⟨by rw [e.out]; first | done | simp, rfl⟩
  · have g2 : ¬ (strOfNums xs).toList = (strOfNums ys).toList := fun h => hxy ((str_inj ux uy).1 (by
      rw [Lib.toList_data, Lib.toList_data] at h
      have h2 := Array.toList_inj.1 h
      unfold strOfNums at h2 ⊢
      rw [ByteArray.mk.injEq]
      exact h2))
    have e : Hid (decide (xs = ys) = false) := Lib.hid (decide_eq_false hxy)
    clear hxy
    go_enter Tryd.func66, Tryd.ntmps66
    go_wp2_with fail
    go_ret
    exact ⟨by rw [e.out]; first | done | simp [g2], rfl⟩
theorem New.zero {B g : Nat} {E : TypeId} {w : World} (hg : B ≤ g) (h : w.heap[g]? = some (.cells #[] E (0, 0))) : New B .u8 E w (.slice (some ⟨g, 0, none⟩) 0 0) [] :=
  .inr ⟨g, 0, #[], rfl, hg, h, by simp, by simp, by omega, by simp⟩
set_option maxHeartbeats 2000000 in
theorem Clone_c (A : Addr) (cap : Nat) (xs : List Int) (w : World) (hx : Sl .u8 w (some A) cap xs) (hl : xs.length ≤ 140737488350000) :
    Calls Tryd.prog 49 #[.slice (some A) xs.length cap] w (NBytesPost xs w) := by
  have q := fun (w : World) (a : Option Addr) (n c n' c' : Nat) => Lib.run_eql_slice_nil (P := Tryd.prog) w 22 5 a n c n' c' Tryd.underlying22
  have hx1 := hx.below ((Below.refl w.heap.size w).alloc (Nat.le_refl _) (.cells #[] 5))
  have n0 : New w.heap.size .u8 5 (w.alloc (.cells #[] 5)) (.slice (some ⟨w.heap.size, 0, none⟩) 0 0) [] := New.zero (Nat.le_refl _) (Go.heap_alloc_new w _)
  go_enter Tryd.func49, Tryd.ntmps49
  go_wp2_with (at_builtin; refine wpList_append_new _ rfl _ _ 22 rfl w.heap.size 5 .u8 1 Tryd.underlying22 info8a _ [] rfl n0 _ _ _ xs rfl rfl hx1.cells (by simp; omega) (by simp; omega) (by simp) ?_)
  intro v1 w1 n1 g1 _
  have hb1 : Below w.heap.size w w1 := ((Below.refl w.heap.size w).alloc (Nat.le_refl _) _).grown g1 (by simp) fun g hg => by simp [Value.ownBlock] at hg; omega
  clear n0 g1
  go_wp2_with fail
  go_ret
  exact ⟨v1, rfl, n1, hb1⟩

/-- The first i and the last i are exchanged. -/
def RevAt (xs L : List Int) (i : Nat) : Prop := ∀ m, m < xs.length → nth L m = if m < i ∨ xs.length - 1 - i < m then nth xs (xs.length - 1 - m) else nth xs m
theorem RevAt.step {xs L : List Int} {i j : Nat} (h : RevAt xs L i) (hl : L.length = xs.length) (hj : j + i + 1 = xs.length) (hij : i < j) : RevAt xs ((L.set i (nth L j)).set j (nth L i)) (i + 1) := by
  intro m hm
  have h1 := h i (by omega)
  have h2 := h j (by omega)
  have h3 := h m hm
  rw [if_neg (by omega)] at h1 h2
  rw [nth_set _ _ _ _ (by rw [List.length_set]; omega), nth_set _ _ _ _ (by omega), h1, h2, h3]
  by_cases e1 : j = m
  · subst e1
    rw [if_pos rfl, if_pos (by omega)]
    congr 1; omega
  · rw [if_neg e1]
    by_cases e2 : i = m
    · subst e2
      rw [if_pos rfl, if_pos (by omega)]
      congr 1; omega
    · rw [if_neg e2]
      by_cases e3 : m < i ∨ xs.length - 1 - i < m
      · rw [if_pos e3, if_pos (by omega)]
      · rw [if_neg e3, if_neg (by omega)]
theorem RevAt.done {xs L : List Int} {i : Nat} (h : RevAt xs L i) (hl : L.length = xs.length) (hi : xs.length ≤ 2 * i + 1) : L = xs.reverse := by
  refine ext_nth _ _ (by simp [hl]) fun m hm => ?_
  have h3 := h m (by omega)
  have e : nth xs.reverse m = nth xs (xs.length - 1 - m) := by
    simp only [nth, List.getD_eq_getElem?_getD]
    rw [List.getElem?_reverse (by omega)]
  rw [h3, e]
  split
  · rfl
  · congr 1; omega
def RevRel (xs : List Int) (g cap : Nat) (E : TypeId) (w : World) (s t : Value) (wr : World) : Prop := ∃ (i : Nat) (L : List Int), 2 * i ≤ xs.length ∧ s = .int .i64 (i : Int) ∧ t = .int .i64 ((xs.length : Int) - 1 - i) ∧ Pre wr g .u8 E cap L ∧ L.length = xs.length ∧ RevAt xs L i ∧ Below g w wr
def RevPost (xs : List Int) (g cap : Nat) (E : TypeId) (w : World) (e : Ending) (w' : World) : Prop := e = .returned (.tuple #[]) ∧ Pre w' g .u8 E cap xs.reverse ∧ Below g w w'
set_option maxHeartbeats 4000000 in
theorem Reverse_c (g cap : Nat) (E : TypeId) (xs : List Int) (w : World) (hp : Pre w g .u8 E cap xs) :
    Calls Tryd.prog 60 #[.slice (some ⟨g, 0, none⟩) xs.length cap] w (RevPost xs g cap E w) := by
  have hm := Nat.le_trans hp.le hp.max
  obtain ⟨n, hn⟩ : ∃ n, n = xs.length := ⟨_, rfl⟩
  have st : RevRel xs g cap E w (.int .i64 0) (.int .i64 ((n : Int) - 1)) w := ⟨0, xs, by omega, rfl, by rw [hn]; simp, hp, rfl, fun m hm => by rw [if_neg (by omega)], .refl _ _⟩
  rw [← hn] at hm ⊢
  have HN := Lib.hid hn
  clear hn hp
  go_enter Tryd.func60, Tryd.ntmps60
  go_wp2_with fail
  go_loopw [2, 3] (fun s t wr => RevRel xs g cap E w s t wr) (fun s _ _ => n - (intOf s).toNat)
  case atStart => exact st
  case round =>
    clear st
    obtain ⟨i, L, hi, rfl, rfl, hP, hL, hr, hb⟩ := hrel
    rw [← HN.out] at hi hL ⊢
    have HL := Lib.hid hL
    have HR := Lib.hid hr
    clear hL hr
    by_cases hlt : (i : Int) < (n : Int) - 1 - (i : Int)
    · obtain ⟨j, hj⟩ : ∃ j : Nat, j + i + 1 = n := ⟨n - 1 - i, by omega⟩
      have hj2 : (n : Int) - 1 - (i : Int) = (j : Int) := by omega
      rw [hj2] at hlt ⊢
      have c1 := hP.cell i (by rw [HL.out]; omega)
      have c2 := hP.cell j (by rw [HL.out]; omega)
      have f1 := hP.free i
      have f2 := hP.free j
      have x1 : (i : Int) < (n : Int) := by omega
      have x2 : (j : Int) < (n : Int) := by omega
      have hlt2 : i < j := by omega
      have hd0 : decide (i < j) = true := decide_eq_true hlt2
      have ne : ¬ i = j := by omega
      have ne2 : ¬ j = i := by omega
      have HS := Lib.hid (RevAt.step (j := j) HR.out (by rw [HL.out, HN.out]) (by rw [← HN.out]; exact hj) (by omega))
      have hw1 : IntKind.i64.wrap ((i : Int) + 1) = (i : Int) + 1 := by rw [IntKind.wrap_i64]; omega
      have hw2 : IntKind.i64.wrap ((j : Int) - 1) = (j : Int) - 1 := by rw [IntKind.wrap_i64]; omega
      have HJ := Lib.hid hj
      clear hi hlt hj
      go_wp2_with fail
      go_region
      go_wp2_with fail
      go_roundw
      case rel =>
        have hP2 := (hP.set i (nth L j)).set j (nth L i)
        exact ⟨i + 1, (L.set i (nth L j)).set j (nth L i), by have := HJ.out; have := HN.out; omega, by go_num, by have := HJ.out; have := HN.out; congr 1; omega, hP2, by rw [List.length_set, List.length_set, HL.out, HN.out], HS.out, below_drewN ((hb.setCell (p := ⟨g, i, none⟩) (Nat.le_refl _) _).setCell (p := ⟨g, j, none⟩) (Nat.le_refl _) _) 1⟩
      case measure => have := HJ.out; simp [intOf]; omega
    · have hd0 : decide ((i : Int) < (n : Int) - 1 - (i : Int)) = false := decide_eq_false hlt
      have e := HR.out.done (by rw [HL.out, HN.out]) (by rw [← HN.out]; omega)
      rw [e] at hP
      go_wp2_with fail
      go_end0
      exact ⟨rfl, hP, hb⟩
end Go.Proofs.YtlolkighnnedfaaDoor
