import Derived.Test.YtmbifokiebjmmaaDoorZ2
import Derived.Lib.ConvBytes
import Derived.Laws.BytesArg
import Derived.Laws.Concat
/- Strings as lists of bytes; conversions. No program in sight. -/
set_option linter.unusedVariables false
set_option linter.unusedSimpArgs false
namespace Go.Sg
open Go.RowKit

abbrev str (xs : List Int) : Value := .string (strOfNums xs)
def numsS (s : ByteArray) : List Int := s.data.toList.map fun x => (x.toNat : Int)
theorem numsS_u8 (s : ByteArray) : U8 (numsS s) := .of_mem (by decide) fun x hx => by
  obtain ⟨b, _, rfl⟩ := List.mem_map.1 hx
  have := b.toNat_lt
  omega
theorem str_nums (s : ByteArray) : strOfNums (numsS s) = s := by
  apply ByteArray.ext
  apply Array.toList_inj.1
  rw [strOfNums_data, numsS, List.map_map]
  apply List.ext_getElem
  · simp
  · intro i h1 h2
    simp
theorem str_append (a b : List Int) : strOfNums a ++ strOfNums b = strOfNums (a ++ b) := by
  rw [strOfNums, strOfNums, ByteArray.mk_append_mk, strOfNums, List.map_append]
theorem u8_byte {x : Int} (h : 0 ≤ x ∧ x ≤ 255) : ((UInt8.ofNat x.toNat).toNat : Int) = x := by
  rw [UInt8.toNat_ofNat']; omega
theorem str_nth {xs : List Int} (u : U8 xs) (i : Nat) (hi : i < (strOfNums xs).size) : (((strOfNums xs)[i]'hi).toNat : Int) = nth xs i := by
  have hl : i < xs.length := by rwa [strOfNums_size] at hi
  have e : (strOfNums xs)[i]'hi = UInt8.ofNat (xs[i]).toNat := by
    show (strOfNums xs).data[i]'_ = _
    simp [strOfNums]
  rw [e, ← nth_get _ _ hl]
  exact u8_byte (u i)
theorem str_inj {a b : List Int} (ua : U8 a) (ub : U8 b) (h : strOfNums a = strOfNums b) : a = b := by
  have hl : a.length = b.length := by rw [← strOfNums_size, ← strOfNums_size, h]
  refine ext_nth _ _ hl fun i hi => ?_
  rw [← str_nth ua i (by rw [strOfNums_size]; exact hi), ← str_nth ub i (by rw [strOfNums_size]; omega)]
  simp only [h]
theorem str_eq {a b : List Int} (ua : U8 a) (ub : U8 b) : ((strOfNums a).toList == (strOfNums b).toList) = decide (a = b) := by
  by_cases h : a = b
  · subst h; simp
  · rw [decide_eq_false h, beq_eq_false_iff_ne]
    intro e
    rw [ByteArray.toList_eq, ByteArray.toList_eq] at e
    exact h (str_inj ua ub (ByteArray.ext (Array.toList_inj.1 e)))
theorem str_extract (xs : List Int) (i j : Nat) : (strOfNums xs).extract i j = strOfNums ((xs.drop i).take (j - i)) := by
  rw [strOfNums, ByteArray.extract_mk, strOfNums, List.map_take, List.map_drop]
theorem str_nil : (⟨#[]⟩ : ByteArray) = strOfNums [] := rfl
theorem str_one : (⟨#[1]⟩ : ByteArray) = strOfNums [1] := rfl
theorem str_zero : (⟨#[0]⟩ : ByteArray) = strOfNums [0] := rfl

/-- A list of bytes as a string. -/
theorem run_str_of {P : Program} (w : World) (src dst e : TypeId) (hs : P.underlying src = some (.slice e)) (he : P.underlying e = some (.int .u8)) (hd : P.underlying dst = some .string) {a : Option Addr} {cap : Nat} {xs : List Int} (n : Nat) (hn : n = xs.length) (h : Sl .u8 w a cap xs) :
    (convert src dst (.slice a n cap)).run P w = .ok (str xs) w := by
  subst hn
  by_cases h0 : 0 < xs.length
  · obtain ⟨b, off, rfl, hc⟩ := h.cells h0
    exact run_convert_bytes_arg w src e hs he b off xs.length cap xs rfl (fun i hi => hc i hi) dst hd
  · obtain rfl : xs = [] := List.eq_nil_of_length_eq_zero (by omega)
    cases a with
    | none => exact run_convert_bytes_nil w src e hs he 0 cap dst hd
    | some ad =>
      have hl : (loadCells ad 0).run P w = .ok ((([] : List Int).map (Value.int .u8)).toArray) w := run_loadCells_list (P := P) w ad [] (fun j v hj => by simp at hj)
      rw [List.length_nil, run_convert_bytes_string w src dst e _ 0 cap hs he hd, run_bytesToString w _ 0 cap [] hl, foldl_push_bytes]
      simp [strOfNums, ByteArray.empty, ByteArray.emptyWithCapacity]
      rfl
/-- A string as a list of bytes of its own. -/
theorem run_bytes_of {P : Program} (w : World) (src dst e : TypeId) {u : TypeDesc} (hs : P.underlying src = some u) (hd : P.underlying dst = some (.slice e)) (he : P.underlying e = some (.int .u8)) {xs : List Int} (ux : U8 xs) (hl : xs.length ≤ 140737488355328) :
    ∃ w' cap, (convert src dst (str xs)).run P w = .ok (.slice (some ⟨w.heap.size, 0, none⟩) xs.length cap) w' ∧ Sl .u8 w' (some ⟨w.heap.size, 0, none⟩) cap xs ∧ Below w.heap.size w w' := by
  have hr := Lib.run_convert_string_bytes (P := P) w src dst e (strOfNums xs) hs hd he
  rw [strOfNums_size] at hr
  have hge := grownCap_ge w xs.length 0 e
  have hcm : grownCap w xs.length 0 e ≤ maxLen := grownCap_le_maxLen w xs.length 0 e (by unfold maxLen; omega)
  unfold maxLen at hcm
  refine ⟨_, _, hr, ⟨by omega, by omega, fun hp => ⟨w.heap.size, 0, rfl, fun j hj => ?_⟩⟩, ⟨?_, ?_, ?_, ?_, ?_⟩⟩
  · rw [Nat.zero_add, Lib.bytesWorld_cell w e _ j (by rw [strOfNums_size]; exact hj), strOfNums_data]
    congr 2
    rw [List.getD_eq_getElem?_getD, List.getElem?_map, List.getElem?_eq_getElem hj]
    show ((UInt8.ofNat (xs[j]).toNat).toNat : Int) = _
    rw [← nth_get _ _ hj]
    exact u8_byte (ux j)
  · rfl
  · rfl
  · rfl
  · rw [Lib.bytesWorld_size]; omega
  · intro j hj
    exact Lib.bytesWorld_at_old w e _ j hj
end Go.Sg
