import Derived.Test.YtbmdifeanocahaaDoorZ18
import Derived.Test.YtbmdifeanocahaaDoorZ19
import Derived.Test.YtbmdifeanocahaaDoorZ21
import Derived.Lib.AppendStr
import Derived.Lib.LaidTab
/- append of a string, make with room, a table of strings; an RSA encoding in plain words. -/
set_option linter.unusedVariables false
set_option linter.unusedSimpArgs false
namespace Go.Sg
open Go.RowKit
theorem run_append_new_string {P : Program} (w : World) (B : Nat) (t u ty e : TypeId) (ht : P.underlying t = some (.slice e)) (hu : P.underlying u = some .string) (hi : (P.info? e).map (fun i => (i.zero, i.size, i.bytes)) = some (some (.int .u8 0), 1, 1))
    (g cap : Nat) (xs : List Int) (hp : Pre w g .u8 e cap xs) (hbg : B ≤ g) (s : ByteArray) (ys : List Int) (hys : Lib.strCells s = ys.map (Value.int .u8)) (hbytes : xs.length + s.size ≤ 140737488355328) (hB : B ≤ w.heap.size) :
    ∃ v' w', (Builtin.append_ #[t, u] ty #[.slice (some ⟨g, 0, none⟩) xs.length cap, .string s]).run P w = .ok v' w' ∧ New B .u8 e w' v' (xs ++ ys) ∧ w.grownBy w' (some g) := by
  obtain ⟨i, hi0, hz, hs, hby⟩ := info1 hi
  have hle := hp.le
  obtain ⟨cs, hh, hnc, hcs, hcm, htake⟩ := hp
  have hsl : s.size = ys.length := by rw [← Lib.strCells_length, hys, List.length_map]
  by_cases hroom : xs.length + s.size ≤ cap
  · have hr := Lib.run_append_room_string (P := P) w t u ty e i ht hu hi0 hs g xs.length cap cs hh s hroom (by omega)
    refine ⟨_, _, hr, .inr ⟨g, cap, _, by rw [List.length_append, hsl], hbg, setRow_heap w g cs _ e _ hh, by rw [List.length_append]; omega, ?_, hcm, ?_⟩, ⟨rfl, rfl, rfl, by simp, fun j _ hk => setRow_other w g j _ (fun ee => hk (by simp [ee]))⟩⟩
    · simp only [List.size_toArray, List.length_append, List.length_take, List.length_drop, Array.length_toList, Lib.strCells_length]
      omega
    · simp only [List.length_append, List.map_append]
      rw [htake, hys]
      apply List.take_left'
      simp
  · have holds : ∀ (j : Nat) (u : Value), (xs.map (Value.int .u8))[j]? = some u → w.cell? ((⟨g, 0, none⟩ : Addr).add j) = some u := by
      intro j u hu
      have hadd : (⟨g, 0, none⟩ : Addr).add j = ⟨g, j, none⟩ := by unfold Addr.add; split <;> simp_all
      rw [hadd, cell_of_row w g j cs e (0, 0) hh]
      rw [← htake, List.getElem?_take] at hu
      split at hu
      · simpa using hu
      · cases hu
    have hr := Lib.run_append_grow_string (P := P) w t u ty e i (.int .u8 0) ht hu hi0 hz ⟨g, 0, none⟩ xs.length cap (xs.map (Value.int .u8)) (by simp [hs]) holds s (by omega) (by omega) (growslice_fits (by omega) (by rw [hby]; omega))
    have hge := grownCap_ge w (xs.length + s.size) cap e
    have hcm : grownCap w (xs.length + s.size) cap e ≤ maxLen := grownCap_le_maxLen w (xs.length + s.size) cap e (by unfold maxLen; omega)
    unfold maxLen at hcm
    refine ⟨_, _, hr, .inr ⟨w.heap.size, grownCap w (xs.length + s.size) cap e, _, by rw [List.length_append, hsl], hB, Go.heap_alloc_new w.drew _, by rw [List.length_append]; omega, ?_, by omega, ?_⟩, ⟨rfl, rfl, rfl, by simp, fun j hj _ => Below.heap_alloc w.drew _ j hj⟩⟩
    · simp only [Array.size_append, List.size_toArray, List.length_map, size_zeroCells, Lib.strCells_length]
      rw [show (Value.cells (.int IntKind.u8 0)).size = 1 from rfl]
      omega
    · simp only [Array.toList_append, List.append_assoc, List.map_append, List.length_append]
      rw [← List.append_assoc, hys]
      apply List.take_left'
      simp
theorem wpList_append_string {P : Program} (w : World) {ops : Array Oper} {rest : List Oper} {o : Oper} {a : Act} {Q : Exit → Act → World → Prop} (hgd : o.guard = none) (s x : Operand) (t u : TypeId)
    (ho : o.op = .call { callee := .builtin .append, args := #[s, x], argTypes := #[t, u] }) (B : Nat) (e : TypeId) (ht : P.underlying t = some (.slice e)) (hu : P.underlying u = some .string)
    (hi : (P.info? e).map (fun i => (i.zero, i.size, i.bytes)) = some (some (.int .u8 0), 1, 1)) (g cap n : Nat) (xs : List Int) (hs : a.eval s = .slice (some ⟨g, 0, none⟩) n cap) (hn : n = xs.length) (hp : Pre w g .u8 e cap xs) (hbg : B ≤ g)
    (S : ByteArray) (ys : List Int) (hx : a.eval x = .string S) (hys : Lib.strCells S = ys.map (Value.int .u8)) (hbytes : xs.length + S.size ≤ 140737488355328) (hB : B ≤ w.heap.size)
    (h : ∀ v' w', New B .u8 e w' v' (xs ++ ys) → w.grownBy w' (some g) → wpList P ops Q rest (a.put o.dst v') w') : wpList P ops Q (o :: rest) a w := by
  subst hn
  refine wpList_plain hgd fun K hK => ?_
  obtain ⟨v', w', hr, h2, h3⟩ := run_append_new_string (P := P) w B t u o.type e ht hu hi g cap xs hp hbg S ys hys hbytes hB
  unfold Oper.wp execOp
  simp only [ho, resolve, invoke, builtin, Sem.run_bind, Sem.run_pure, Result.andThen_ok, List.map_toArray, List.map_cons, List.map_nil, hs, hx, hr]
  exact hK _ _ (h v' w' h2 h3)
theorem run_make_cap {P : Program} (w : World) (t e : TypeId) (k : IntKind) (bytes : Nat) (ht : P.underlying t = some (.slice e)) (hi : (P.info? e).map (fun i => (i.zero, i.size, i.bytes)) = some (some (.int k 0), 1, bytes))
    (n : Nat) (hb : bytes * n ≤ 281474976710656) (h63 : n ≤ 9223372036854775807) :
    ∃ w', (Instr.makeSlice t (.int .i64 0) (.int .i64 n)).run P w = .ok (.slice (some ⟨w.heap.size, 0, none⟩) 0 n) w' ∧ New w.heap.size k e w' (.slice (some ⟨w.heap.size, 0, none⟩) 0 n) [] ∧ Below w.heap.size w w' := by
  obtain ⟨i, hi0, hz, hs, hby⟩ := info1 hi
  have hb' : (bytes : Int) * (n : Int) ≤ 281474976710656 := by
    have h : ((bytes * n : Nat) : Int) ≤ 281474976710656 := by omega
    rwa [Int.natCast_mul] at h
  have hr := run_make (P := P) w t e i (.int k 0) ht hi0 hz .i64 .i64 0 n (by omega) (by omega) (by rw [hby]; exact hb') (by omega)
  simp only [Int.toNat_natCast, hs, Nat.mul_one, Int.toNat_zero] at hr
  refine ⟨_, hr, .inr ⟨w.heap.size, n, _, rfl, Nat.le_refl _, heap_alloc_new w _, by simp, ?_, h63, by simp⟩, (Below.refl _ _).alloc (Nat.le_refl _) _⟩
  rw [← Array.length_toList, show Value.cells (.int k 0) = #[.int k 0] from rfl, toList_madeCells_one]
  simp
theorem wpList_make_cap {P : Program} (w : World) {ops : Array Oper} {rest : List Oper} {o : Oper} {a : Act} {Q : Exit → Act → World → Prop}
    (hg : o.guard = none) (l c : Operand) (t : TypeId) (hop : o.op = Op.makeSlice t l c) (e : TypeId) (k : IntKind) (bytes : Nat) (ht : P.underlying t = some (.slice e))
    (hi : (P.info? e).map (fun i => (i.zero, i.size, i.bytes)) = some (some (.int k 0), 1, bytes))
    (n : Nat) (C : Int) (hl : a.eval l = .int .i64 0) (hc : a.eval c = .int .i64 C) (hC : C = n) (hb : bytes * n ≤ 281474976710656) (h63 : n ≤ 9223372036854775807)
    (hK : ∀ w', New w.heap.size k e w' (.slice (some ⟨w.heap.size, 0, none⟩) 0 n) [] → Below w.heap.size w w' → wpList P ops Q rest (a.put o.dst (.slice (some ⟨w.heap.size, 0, none⟩) 0 n)) w') :
    wpList P ops Q (o :: rest) a w := by
  refine wpList_plain hg fun K hK' => ?_
  obtain ⟨w', hrun, r1, r2⟩ := run_make_cap (P := P) w t e k bytes ht hi n hb h63
  subst hC
  unfold Oper.wp
  simp [execOp, hop, hl, hc, hrun, Result.andThen]
  exact hK' _ _ (hK w' r1 r2)

/-! ### a table of strings -/
def strData {H : Type} (zs : List ByteArray) : DataW H := .agg (zs.map fun z => .lit (.string z.data.toList))
theorem cells_of_strs {H : Type} {enc : TypeId × Value → H} {P : Program} {w : World} {base : Nat} {sp : Nat → Bool} {held : Bool} {fuel : Nat} {t e : TypeId} {n : Nat} {cs : List Value} {zs : List ByteArray} {p : List MemPlace}
    (ht : P.underlying t = some (.array n e)) (he : P.underlying e = some .string) (hce : P.cellsOf e = 1) (hct : P.cellsOf t = n)
    (h : DataW.trod enc P w base sp held fuel t cs = some (strData zs, p)) : cs = zs.map fun z => Value.string z := by
  cases fuel with
  | zero => simp [DataW.trod] at h
  | succ fuel =>
    simp only [DataW.trod, ht, hce, hct, Nat.mul_one] at h
    split at h
    · rename_i hl
      obtain ⟨xs, hm, hx⟩ := Option.map_eq_some_iff.1 h
      have hxs : xs.map (·.1) = zs.map fun z => (DataW.lit (.string z.data.toList) : DataW H) := by
        have := congrArg Prod.fst hx
        simpa [strData] using this
      have hxl : xs.length = n := by simpa using Lib.mapM_length hm
      have hzl : zs.length = n := by
        have := congrArg List.length hxs
        simp at this
        omega
      apply List.ext_getElem?
      intro i
      by_cases hi : i < n
      · obtain ⟨b, hb, hf⟩ := Lib.mapM_at hm i i (by simp [hi])
        obtain ⟨z, hc, rfl, _⟩ := DataW.trod_string he hf
        have h1 : cs[i]? = some (.string z) := by
          have := congrArg (·[0]?) hc
          simpa [List.getElem?_take, List.getElem?_drop] using this
        have h2 : (xs.map (·.1))[i]? = some (DataW.lit (.string z.data.toList) : DataW H) := by simp [hb]
        rw [hxs] at h2
        simp only [List.getElem?_map, Option.map_eq_some_iff, DataW.lit.injEq, Lit.string.injEq] at h2
        obtain ⟨z', hz', e⟩ := h2
        have e2 : z' = z := by
          cases z; cases z'
          rw [ByteArray.mk.injEq]
          exact Array.toList_inj.1 e
        subst e2
        simp [h1, hz']
      · rw [List.getElem?_eq_none (by omega), List.getElem?_eq_none (by simp; omega)]
    · cases h
theorem strs_of_head {P : Program} {W : World} {name : String} {zs : List ByteArray} {rest : List (String × DataW Unit)} {g : Nat} {t e : TypeId} {n : Nat}
    (hg : P.globalNamed name = some g) (hty : (P.globals[g]?).map (·.type) = some t) (ht : P.underlying t = some (.array n e)) (he : P.underlying e = some .string) (hce : P.cellsOf e = 1) (hct : P.cellsOf t = n)
    (h : laidMet P ((name, strData zs) :: rest) W) : ∀ (i : Nat) z, zs[i]? = some z → W.cell? ⟨g, i, none⟩ = some (.string z) := by
  obtain ⟨ps, ⟨g', t', cs, fuel, p, q, hg', ht', hvar, hd, _, _⟩, _⟩ := h
  obtain rfl := Option.some.inj (hg.symm.trans hg')
  obtain rfl := Option.some.inj (hty.symm.trans ht')
  have e1 : cs = (zs.map fun z => Value.string z).toArray := by rw [← cells_of_strs ht he hce hct hd]
  rw [e1] at hvar
  intro i z hz
  have := World.var?_cell hg hvar i
  simpa [hz] using this

/-! ### the encoding -/
def infoOf (h : Int) : List Int := [48, 17 + (shaSize h : Int), 48, 13, 6, 9, 96, 134, 72, 1, 101, 3, 4, 2, h, 5, 0, 4, (shaSize h : Int)]
theorem infoOf_len (h : Int) : (infoOf h).length = 19 := rfl
theorem infoOf_u8 {h : Int} (hh : IsHash h) : U8 (infoOf h) := by
  refine .of_mem (by omega) ?_
  rcases hh with rfl | rfl | rfl <;> decide
def infoStrs : List ByteArray := [strOfNums [], strOfNums (infoOf 1), strOfNums (infoOf 2), strOfNums (infoOf 3)]
theorem str_cells {xs : List Int} (u : U8 xs) : Lib.strCells (strOfNums xs) = xs.map (Value.int .u8) := by
  unfold Lib.strCells strOfNums
  simp only [List.map_map]
  apply List.ext_getElem?
  intro i
  simp only [List.getElem?_map]
  cases hx : xs[i]? with
  | none => rfl
  | some x =>
    have : 0 ≤ x ∧ x ≤ 255 := by
      have := u i
      unfold nth at this
      rw [List.getD_eq_getElem?_getD, hx] at this
      exact this
    simp only [Option.map_some, Function.comp, Option.some.injEq, Value.int.injEq, true_and]
    rw [UInt8.toNat_ofNat']
    omega
theorem str_size (xs : List Int) : (strOfNums xs).size = xs.length := by
  unfold strOfNums ByteArray.size
  simp
def rfits (h n : Int) : Prop := 30 + (shaSize h : Int) ≤ n ∧ n ≤ 512
instance (h n : Int) : Decidable (rfits h n) := inferInstanceAs (Decidable (_ ∧ _))
def rOf (h : Int) (m : List Int) (n : Nat) : List Int := [0, 1] ++ List.replicate (n - 22 - shaSize h) 255 ++ ([0] ++ (infoOf h ++ sha h m))
def rcode (h n : Int) : Int := if IsHash h then (if rfits h n then 0 else 90) else 111
def rres (h : Int) (m : List Int) (n : Int) : List Int := if IsHash h ∧ rfits h n then rOf h m n.toNat else []
theorem rres_u8 (h : Int) (m : List Int) (n : Int) : U8 (rres h m n) := by
  unfold rres
  split
  · next k =>
    unfold rOf
    refine InR.append (by omega) (InR.append (by omega) (.of_mem (by omega) (by decide)) (.of_mem (by omega) ?_)) (InR.append (by omega) (.of_mem (by omega) (by decide)) (InR.append (by omega) (infoOf_u8 k.1) (sha_u8 _ _)))
    intro x hx
    have := List.eq_of_mem_replicate hx
    omega
  · exact .nil (by omega)
theorem rres_len (h : Int) (m : List Int) (n : Int) : (rres h m n).length ≤ 512 := by
  unfold rres
  split
  · next k =>
    have h1 := k.2.1
    have h2 := k.2.2
    unfold rOf
    simp only [List.length_append, List.length_replicate, infoOf_len, sha_len, List.length_cons, List.length_nil]
    omega
  · simp
end Go.Sg
namespace Go.Proofs.YtbmdifeanocahaaDoor
open Go.RowKit Go.Sg
/-- The table of infos, as the program lays it. -/
def Infos (w : World) : Prop := ∀ (i : Nat) z, infoStrs[i]? = some z → w.cell? ⟨0, i, none⟩ = some (.string z)
theorem Infos.lt {w : World} (h : Infos w) : 0 < w.heap.size := World.block_lt_of_cell? w _ (h 0 _ rfl)
theorem Infos.below {w w' : World} (h : Infos w) (hb : Below w.heap.size w w') : Infos w' := by
  intro i z hz
  have h1 := h i z hz
  have h2 : w'.heap[(0 : Nat)]? = w.heap[(0 : Nat)]? := hb.block _ h.lt
  rw [← h1]
  unfold World.cell?
  rw [h2]
theorem Infos.grown {w w' : World} {g : Nat} (h : Infos w) (hg : w.grownBy w' (some g)) (hl : 0 < g) : Infos w' := by
  intro i z hz
  have h1 := h i z hz
  have h2 : w'.heap[(0 : Nat)]? = w.heap[(0 : Nat)]? := hg.block _ h.lt (by simp; omega)
  rw [← h1]
  unfold World.cell?
  rw [h2]
end Go.Proofs.YtbmdifeanocahaaDoor
