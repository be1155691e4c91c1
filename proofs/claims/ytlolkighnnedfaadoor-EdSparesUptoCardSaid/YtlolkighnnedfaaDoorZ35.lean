import Derived.Test.YtlolkighnnedfaaDoorZ34
import Derived.Test.YtlolkighnnedfaaDoorZ14
import Derived.IntWalk
import Derived.Lib.SlBytesConst
import Derived.Test.YtlolkighnnedfaaDoorZ24
/- signetlaw13, outright: digit, unhex, by their contracts. -/
set_option linter.unusedVariables false
set_option linter.unusedSimpArgs false
namespace Go.Sg
open Go.RowKit
def dig (c : Int) : Int := if 97 ≤ c then c - 87 else c - 48
def HexS (s : List Int) : Prop := ∀ i, i < s.length → 48 ≤ nth s i ∧ nth s i ≤ 102 ∧ dig (nth s i) ≤ 15
def unhexL (s : List Int) (m : Nat) : List Int := (List.range m).map fun j => 16 * dig (nth s (2 * j)) + dig (nth s (2 * j + 1))
theorem unhexL_succ (s : List Int) (m : Nat) : unhexL s (m + 1) = unhexL s m ++ [16 * dig (nth s (2 * m)) + dig (nth s (2 * m + 1))] := by unfold unhexL; rw [List.range_succ, List.map_append]; rfl
theorem unhexL_len (s : List Int) (m : Nat) : (unhexL s m).length = m := by simp [unhexL]
theorem dig_rng {c : Int} (h : 48 ≤ c) : 0 ≤ dig c := by unfold dig; split <;> omega
theorem str_nthE {xs : List Int} (u : U8 xs) (i : Nat) (hi : i < (strOfNums xs).size) : (((strOfNums xs)[i]'hi).toNat : Int) = nth xs i := by
  have hl : i < xs.length := by rw [← strOfNums_size]; exact hi
  have h1 : (strOfNums xs)[i]'hi = UInt8.ofNat (xs[i]).toNat := by
    show (strOfNums xs).data[i]'hi = _
    simp [strOfNums]
  have h2 := u i
  rw [h1, nth_get xs i hl] 
  rw [nth_get xs i hl] at h2
  rw [UInt8.toNat_ofNat']
  omega
section
variable {P : Program} {w : World} {o : Oper} {a : Act} {Q : Exit → Act → World → Prop} {K : Act → World → Prop}
theorem wp_lit8 (t e : TypeId) (x : Operand) (ho : o.op = .buildSlice t 1 #[(0, x)])
    (ht : P.underlying t = some (.slice e)) (hi : (P.info? e).map (fun i => (i.zero, i.size, i.bytes)) = some (some (.int .u8 0), 1, 1)) (c : Int) (hx : a.eval x = .int .u8 c)
    (h : K (a.put o.dst (.slice (some ⟨w.heap.size, 0, none⟩) 1 1)) (w.alloc (.cells #[.int .u8 c] e))) : o.wp P a w K Q := by
  obtain ⟨i, hi0, hz, hs, hby⟩ : ∃ i, P.info? e = some i ∧ i.zero = some (.int .u8 0) ∧ i.size = 1 ∧ i.bytes = 1 := info_parts hi
  have hf : Instr.fill (fun j => some (j * i.size, i.size)) ((Array.range (1 * i.size)).map ((Value.int .u8 0).cells[· % (Value.int .u8 0).cells.size]!)) ((#[(0, x)] : Array (Nat × Operand)).map fun (j, y) => (j, a.eval y)).toList = some ([.int .u8 c] : List Value).toArray := by
    have hr : Array.range 1 = #[0] := by decide
    simp [hs, hx, Instr.fill, Value.cells, hr]
  exact wp_buildSlice t e 1 _ ho _ i (.int .u8 0) ht hi0 hz (by rw [hs]; omega) (by rw [hs]; omega) hf h
theorem wp_append_new (s x : Operand) (t : TypeId)
    (ho : o.op = .call { callee := .builtin .append, args := #[s, x], argTypes := #[t, t] }) (B : Nat) (e : TypeId) (k : IntKind) (bytes : Nat) (ht : P.underlying t = some (.slice e))
    (hi : (P.info? e).map (fun i => (i.zero, i.size, i.bytes)) = some (some (.int k 0), 1, bytes)) (v : Value) (xs : List Int) (hs : a.eval s = v) (hv : New B k e w v xs)
    (ad : Option Addr) (c n : Nat) (ys : List Int) (hx : a.eval x = .slice ad n c) (hn : n = ys.length) (hy : Cells k w ad ys) (hm : xs.length + ys.length ≤ 9223372036854775807) (hbytes : (xs.length + ys.length) * bytes ≤ 140737488355328) (hB : B ≤ w.heap.size)
    (h : ∀ v' w', New B k e w' v' (xs ++ ys) → w.grownBy w' v.ownBlock → (v'.ownBlock = v.ownBlock ∨ ∃ g, v'.ownBlock = some g ∧ w.heap.size ≤ g) → K (a.put o.dst v') w') : o.wp P a w K Q := by
  subst hn
  obtain ⟨v', w', hr, h2, h3, h4⟩ := run_append_new (P := P) w B t o.type e k bytes ht hi v xs hv ad c ys hy hm hbytes hB
  unfold Oper.wp execOp
  simp only [ho, resolve, invoke, builtin, Sem.run_bind, Sem.run_pure, Result.andThen_ok, List.map_toArray, List.map_cons, List.map_nil, hs, hx, hr]
  exact h v' w' h2 h3 h4
end
def pubHex : List Int := [100, 55, 53, 97, 57, 56, 48, 49, 56, 50, 98, 49, 48, 97, 98, 55, 100, 53, 52, 98, 102, 101, 100, 51, 99, 57, 54, 52, 48, 55, 51, 97, 48, 101, 101, 49, 55, 50, 102, 51, 100, 97, 97, 54, 50, 51, 50, 53, 97, 102, 48, 50, 49, 97, 54, 56, 102, 55, 48, 55, 53, 49, 49, 97]
def sigHex : List Int := [101, 53, 53, 54, 52, 51, 48, 48, 99, 51, 54, 48, 97, 99, 55, 50, 57, 48, 56, 54, 101, 50, 99, 99, 56, 48, 54, 101, 56, 50, 56, 97, 56, 52, 56, 55, 55, 102, 49, 101, 98, 56, 101, 53, 100, 57, 55, 52, 100, 56, 55, 51, 101, 48, 54, 53, 50, 50, 52, 57, 48, 49, 53, 53, 53, 102, 98, 56, 56, 50, 49, 53, 57, 48, 97, 51, 51, 98, 97, 99, 99, 54, 49, 101, 51, 57, 55, 48, 49, 99, 102, 57, 98, 52, 54, 98, 100, 50, 53, 98, 102, 53, 102, 48, 53, 57, 53, 98, 98, 101, 50, 52, 54, 53, 53, 49, 52, 49, 52, 51, 56, 101, 55, 97, 49, 48, 48, 98]
end Go.Sg
namespace Go.Proofs.YtlolkighnnedfaaDoor
open Go.RowKit Go.Sg
theorem digit_c (c : Int) (h : 48 ≤ c ∧ c ≤ 102) (w : World) : Calls Tryd.prog 121 #[.int .u8 c] w fun e w' => e = .returned (.int .i64 (dig c)) ∧ w = w' := by
  by_cases h97 : 97 ≤ c
  · have E : Hid (dig c = c - 97 + 10) := Lib.hid (by unfold dig; rw [if_pos h97]; omega)
    go_enter Tryd.func121, Tryd.ntmps121
    go_wp2_with fail
    go_ret
    exact ⟨by rw [E.out]; rfl, rfl⟩
  · have E : Hid (dig c = c - 48) := Lib.hid (by unfold dig; rw [if_neg h97])
    have h98 : c < 97 := by omega
    go_enter Tryd.func121, Tryd.ntmps121
    go_wp2_with fail
    go_ret
    exact ⟨by rw [E.out]; rfl, rfl⟩

set_option maxHeartbeats 1000000 in
set_option maxRecDepth 20000 in
theorem unhex_c (s : List Int) (hs : HexS s) (u : U8 s) (m : Nat) (hm : s.length = 2 * m) (hm2 : m ≤ 1000) (w : World) :
    Calls Tryd.prog 96 #[.string (strOfNums s)] w (NBytesPost (unhexL s m) w) := by
  obtain ⟨S, hS⟩ : ∃ S, S = strOfNums s := ⟨_, rfl⟩
  have hz : S.size = 2 * m := by rw [hS, strOfNums_size, hm]
  have NT : Hid (∀ i (hi : i < S.size), ((S[i]'hi).toNat : Int) = nth s i) := Lib.hid (by subst hS; exact fun i hi => str_nthE u i hi)
  have HS := Lib.hid hs
  have HM := Lib.hid hm
  rw [← hS]
  clear hS hs hm
  go_enter Tryd.func96, Tryd.ntmps96
  go_wp2_with fail
  go_loopw [3, 4] (fun v t wr => ∃ j : Nat, j ≤ m ∧ t = .int .i64 ((2 * j : Nat) : Int) ∧ New w.heap.size .u8 5 wr v (unhexL s j) ∧ Below w.heap.size w wr)
    (fun _ t _ => 2 * m - (intOf t).toNat)
  case atStart => exact ⟨0, by omega, rfl, .nil _ _ _ _, .refl _ _⟩
  case round =>
    obtain ⟨j, hj, rfl, hv, hb⟩ := hrel
    have hbs := hb.size
    obtain ⟨i, hi⟩ : ∃ i, i = 2 * j := ⟨_, rfl⟩
    rw [← hi]
    have HI := Lib.hid hi
    by_cases hlt : j < m
    · have hi0 : i < S.size := by omega
      have hi1 : i + 1 < S.size := by omega
      have n0 := NT.out i hi0
      have n1 := NT.out (i + 1) hi1
      have g0 := HS.out i (by rw [HM.out]; omega)
      have g1 := HS.out (i + 1) (by rw [HM.out]; omega)
      obtain ⟨c0, hc0⟩ : ∃ c, c = nth s i := ⟨_, rfl⟩
      obtain ⟨c1, hc1⟩ : ∃ c, c = nth s (i + 1) := ⟨_, rfl⟩
      rw [← hc0] at n0 g0
      rw [← hc1] at n1 g1
      have hc0' : 48 ≤ c0 ∧ c0 ≤ 102 := ⟨g0.1, g0.2.1⟩
      have hc1' : 48 ≤ c1 ∧ c1 ≤ 102 := ⟨g1.1, g1.2.1⟩
      have r0 := dig_rng g0.1
      have r1 := dig_rng g1.1
      have q0 := g0.2.2
      have q1 := g1.2.2
      have C0 := Lib.hid hc0
      have C1 := Lib.hid hc1
      have hd1 : decide ((i : Int) + 1 < (S.size : Int)) = true := decide_eq_true (by omega)
      have hlt2 : (i : Int) + 1 < (S.size : Int) := by omega
      have hlt3 : (i : Int) + 1 < 2 * (m : Int) := by omega
      have hd3 : decide ((i : Int) + 1 < 2 * (m : Int)) = true := decide_eq_true hlt3
      have ei : ((i : Int) + 1).toNat = i + 1 := by omega
      clear hc0 hc1 g0 g1 hi
      go_wp2_with fail
      have hi2 : (i : Int) < 2 * (m : Int) := by omega
      have h01 : (0 : Int) ≤ (i : Int) + 1 := by omega
      have hwr : IntKind.i64.wrap ((i : Int) + 1) = (i : Int) + 1 := IntWalk.i64_in _ (by omega)
      refine wp_region_held_drew (S := fun W_ => True) (by kernel_rfl) (trivial) (fun hS => ?_)
      have hb2 := below_drewN (Below.refl wr.heap.size wr) 1
      obtain ⟨wq, hw_⟩ : ∃ x, x = World.drew wr := ⟨_, rfl⟩
      rw [show World.drewN wr 1 = wq from hw_.symm] at hb2
      rw [← hw_]
      clear hw_
      replace hv := hv.keep hb2
      replace hb := hb.trans (hb2.mono hbs)
      replace hbs := hb.size
      clear hb2
      obtain ⟨L, hL1⟩ : ∃ L, L = unhexL s j := ⟨_, rfl⟩
      rw [← hL1] at hv
      have HL : Hid (L.length = j) := Lib.hid (by rw [hL1, unhexL_len])
      have hw8 : IntKind.u8.wrap (IntKind.i64.wrap (IntKind.i64.wrap (16 * dig c0) + dig c1)) = 16 * dig c0 + dig c1 := by
        rw [IntWalk.i64_in (16 * dig c0) (by omega), IntWalk.i64_in (16 * dig c0 + dig c1) (by omega), IntKind.wrap_u8']
        omega
      have FIN : Hid (L ++ [IntKind.u8.wrap (IntKind.i64.wrap (IntKind.i64.wrap (16 * dig c0) + dig c1))] = unhexL s (j + 1)) := Lib.hid (by rw [hw8, hL1, unhexL_succ, C0.out, C1.out, HI.out])
      clear hw8
      clear hL1
      refine wpAnyH_take (i := 0) (v := ?_) rfl (by kernel_rfl) (by kernel_rfl) (by kernel_rfl) (fun _ _ _ h => h) (Or.inl ⟨by rfl, ?_⟩) hS ?_
      rotate_left
      · intro w _; go_simp; try with_reducible rfl
      simp only [List.getElem_toArray, List.getElem_cons_zero, List.getElem_cons_succ, Act.put, List.setIfInBounds_toArray, List.set_cons_zero, List.set_cons_succ]
      refine wpAnyH_take (i := 1) (v := ?_) rfl (by kernel_rfl) (by kernel_rfl) (by kernel_rfl) (fun _ _ _ h => h) (Or.inl ⟨by rfl, ?_⟩) hS ?_
      rotate_left
      · intro w _; go_simp; try with_reducible rfl
      simp only [List.getElem_toArray, List.getElem_cons_zero, List.getElem_cons_succ, Act.put, List.setIfInBounds_toArray, List.set_cons_zero, List.set_cons_succ]
      refine wpAnyH_take (i := 2) (v := ?_) rfl (by kernel_rfl) (by kernel_rfl) (by kernel_rfl) (fun _ _ _ h => h) (Or.inl ⟨by rfl, ?_⟩) hS ?_
      rotate_left
      · intro w _; go_simp; try with_reducible rfl
      simp only [List.getElem_toArray, List.getElem_cons_zero, List.getElem_cons_succ, Act.put, List.setIfInBounds_toArray, List.set_cons_zero, List.set_cons_succ]
      refine wpAnyH_take (i := 3) (v := ?_) rfl (by kernel_rfl) (by kernel_rfl) (by kernel_rfl) (fun _ _ _ h => h) (Or.inl ⟨by rfl, ?_⟩) hS ?_
      rotate_left
      · intro w _; go_simp; try with_reducible rfl
      simp only [List.getElem_toArray, List.getElem_cons_zero, List.getElem_cons_succ, Act.put, List.setIfInBounds_toArray, List.set_cons_zero, List.set_cons_succ]
      refine wpAnyH_take (i := 6) (v := ?_) rfl (by kernel_rfl) (by kernel_rfl) (by kernel_rfl) (fun _ _ _ h => h) (Or.inl ⟨by rfl, ?_⟩) hS ?_
      rotate_left
      · intro w _; go_simp; try with_reducible rfl
      simp only [List.getElem_toArray, List.getElem_cons_zero, List.getElem_cons_succ, Act.put, List.setIfInBounds_toArray, List.set_cons_zero, List.set_cons_succ]
      refine wpAnyH_take (i := 7) (v := ?_) rfl (by kernel_rfl) (by kernel_rfl) (by kernel_rfl) (fun _ _ _ h => h) (Or.inl ⟨by rfl, ?_⟩) hS ?_
      rotate_left
      · intro w _; go_simp; try with_reducible rfl
      simp only [List.getElem_toArray, List.getElem_cons_zero, List.getElem_cons_succ, Act.put, List.setIfInBounds_toArray, List.set_cons_zero, List.set_cons_succ]
      refine wpAnyH_take (i := 8) (v := ?_) rfl (by kernel_rfl) (by kernel_rfl) (by kernel_rfl) (fun _ _ _ h => h) (Or.inl ⟨by rfl, ?_⟩) hS ?_
      rotate_left
      · intro w _; go_simp; try with_reducible rfl
      simp only [List.getElem_toArray, List.getElem_cons_zero, List.getElem_cons_succ, Act.put, List.setIfInBounds_toArray, List.set_cons_zero, List.set_cons_succ]
      refine wpAnyH_take (i := 9) (v := ?_) rfl (by kernel_rfl) (by kernel_rfl) (by kernel_rfl) (fun _ _ _ h => h) (Or.inl ⟨by rfl, ?_⟩) hS ?_
      rotate_left
      · intro w _; go_simp; try with_reducible rfl
      simp only [List.getElem_toArray, List.getElem_cons_zero, List.getElem_cons_succ, Act.put, List.setIfInBounds_toArray, List.set_cons_zero, List.set_cons_succ]
      refine wpAnyH_ready (rs := [4]) (by kernel_rfl) (by simp) ?_
      refine AllReadyH.cons rfl (fun K hK => ?_) AllReadyH.nil
      rw [if_pos (by rfl)]
      simp only [List.getElem_toArray, List.getElem_cons_zero, List.getElem_cons_succ]
      go_simp
      refine (digit_c c0 hc0' _).mono ?_; rintro e_ w_ ⟨rfl, rfl⟩
      dsimp only
      refine hK.out _ _ hS (fun hS => ?_)
      refine wpAnyH_take (i := 5) (v := ?_) rfl (by kernel_rfl) (by kernel_rfl) (by kernel_rfl) (fun _ _ _ h => h) (Or.inl ⟨by rfl, ?_⟩) hS ?_
      rotate_left
      · intro w _; go_simp; try with_reducible rfl
      simp only [List.getElem_toArray, List.getElem_cons_zero, List.getElem_cons_succ, Act.put, List.setIfInBounds_toArray, List.set_cons_zero, List.set_cons_succ]
      refine wpAnyH_ready (rs := [10]) (by kernel_rfl) (by simp) ?_
      refine AllReadyH.cons rfl (fun K hK => ?_) AllReadyH.nil
      rw [if_pos (by rfl)]
      simp only [List.getElem_toArray, List.getElem_cons_zero, List.getElem_cons_succ]
      go_simp
      refine (digit_c c1 hc1' _).mono ?_; rintro e_ w_ ⟨rfl, rfl⟩
      dsimp only
      refine hK.out _ _ hS (fun hS => ?_)
      refine wpAnyH_take (i := 11) (v := ?_) rfl (by kernel_rfl) (by kernel_rfl) (by kernel_rfl) (fun _ _ _ h => h) (Or.inl ⟨by rfl, ?_⟩) hS ?_
      rotate_left
      · intro w _; go_simp; try with_reducible rfl
      simp only [List.getElem_toArray, List.getElem_cons_zero, List.getElem_cons_succ, Act.put, List.setIfInBounds_toArray, List.set_cons_zero, List.set_cons_succ]
      refine wpAnyH_take (i := 12) (v := ?_) rfl (by kernel_rfl) (by kernel_rfl) (by kernel_rfl) (fun _ _ _ h => h) (Or.inl ⟨by rfl, ?_⟩) hS ?_
      rotate_left
      · intro w _; go_simp; try with_reducible rfl
      simp only [List.getElem_toArray, List.getElem_cons_zero, List.getElem_cons_succ, Act.put, List.setIfInBounds_toArray, List.set_cons_zero, List.set_cons_succ]
      refine wpAnyH_ready (rs := [13]) (by kernel_rfl) (by simp) ?_
      refine AllReadyH.cons rfl (fun K hK => ?_) AllReadyH.nil
      rw [if_pos (by rfl)]
      simp only [List.getElem_toArray, List.getElem_cons_zero, List.getElem_cons_succ]
      refine wp_lit8 22 5 _ rfl Tryd.underlying22 info8a _ rfl ?_
      refine hK.out _ _ trivial (fun hS => ?_)
      refine wpAnyH_ready (rs := [14]) (by kernel_rfl) (by simp) ?_
      refine AllReadyH.cons rfl (fun K hK => ?_) AllReadyH.nil
      rw [if_pos (by rfl)]
      simp only [List.getElem_toArray, List.getElem_cons_zero, List.getElem_cons_succ]
      refine wp_append_new _ _ 22 rfl w.heap.size 5 .u8 1 Tryd.underlying22 info8a _ _ rfl (hv.alloc _) _ _ 1 [IntKind.u8.wrap (IntKind.i64.wrap (IntKind.i64.wrap (16 * dig c0) + dig c1))] rfl rfl (cells_one _ _ _ _ _ rfl) (by have := HL.out; simp; omega) (by have := HL.out; simp; omega) (by simp; omega) ?_
      intro v' w' hv' hg' _
      have hlt1 := fun g hg => (hv.lt g hg).1
      have hb' : Below w.heap.size w w' := (hb.alloc hbs _).grown hg' (by simp; omega) hlt1
      rw [FIN.out] at hv'
      clear hv hg' hb
      refine hK.out _ _ trivial (fun hS => ?_)
      refine wpAnyH_ready (rs := [15]) (by kernel_rfl) (by simp) ?_
      refine AllReadyH.cons rfl (fun K hK => ?_) AllReadyH.nil
      rw [if_pos (by rfl)]
      simp only [List.getElem_toArray, List.getElem_cons_zero, List.getElem_cons_succ]
      go_simp
      refine hK.out _ _ hS (fun hS => ?_)
      refine wpAnyH_done (by kernel_rfl) ?_ _
      clear hS
      go_wp2_with fail
      go_roundw
      case rel => exact ⟨j + 1, by omega, by have := HI.out; go_num, hv', hb'⟩
      case measure => have := HI.out; simp [intOf]; omega
    · obtain rfl : j = m := by omega
      have hd1 : decide ((i : Int) + 1 < (S.size : Int)) = false := decide_eq_false (by omega)
      have hlt2 : ¬ (i : Int) + 1 < (S.size : Int) := by omega
      have hlt3 : ¬ (i : Int) + 1 < 2 * (j : Int) := by omega
      have hd3 : decide ((i : Int) + 1 < 2 * (j : Int)) = false := decide_eq_false hlt3
      have hib : i ≤ 2000 := by omega
      have hij : i = 2 * j := hi
      clear hi
      go_wp2_with fail
      go_ret
      exact ⟨_, rfl, hv, hb⟩
def hexB (s : List Int) : Bool := s.all fun c => decide (48 ≤ c) && decide (c ≤ 102) && decide (dig c ≤ 15)
theorem hexB_is {s : List Int} (h : hexB s = true) : HexS s ∧ U8 s := by
  have h1 : ∀ c ∈ s, 48 ≤ c ∧ c ≤ 102 ∧ dig c ≤ 15 := fun c hc => by
    have := List.all_eq_true.1 h c hc
    simpa [and_assoc] using this
  exact ⟨fun i hi => h1 _ (by rw [nth_get s i hi]; exact List.getElem_mem hi), .of_mem (by omega) fun c hc => by have := h1 c hc; omega⟩
theorem unhex_pub (w : World) : Calls Tryd.prog 96 #[.string { data := #[100, 55, 53, 97, 57, 56, 48, 49, 56, 50, 98, 49, 48, 97, 98, 55, 100, 53, 52, 98, 102, 101, 100, 51, 99, 57, 54, 52, 48, 55, 51, 97, 48, 101, 101, 49, 55, 50, 102, 51, 100, 97, 97, 54, 50, 51, 50, 53, 97, 102, 48, 50, 49, 97, 54, 56, 102, 55, 48, 55, 53, 49, 49, 97] }] w (NBytesPost pub0 w) := by
  have hh := hexB_is (s := pubHex) (by decide +kernel)
  have h := unhex_c pubHex hh.1 hh.2 32 (by decide +kernel) (by omega) w
  rw [show unhexL pubHex 32 = pub0 by decide +kernel] at h
  exact h
theorem unhex_sig (w : World) : Calls Tryd.prog 96 #[.string { data := ([101, 53, 53, 54, 52, 51, 48, 48, 99, 51, 54, 48, 97, 99, 55, 50, 57, 48, 56, 54, 101, 50, 99, 99, 56, 48, 54, 101, 56, 50, 56, 97, 56, 52, 56, 55, 55, 102, 49, 101, 98, 56, 101, 53, 100, 57, 55, 52, 100, 56, 55, 51, 101, 48, 54, 53, 50, 50, 52, 57, 48, 49, 53, 53].append [53, 102, 98, 56, 56, 50, 49, 53, 57, 48, 97, 51, 51, 98, 97, 99, 99, 54, 49, 101, 51, 57, 55, 48, 49, 99, 102, 57, 98, 52, 54, 98, 100, 50, 53, 98, 102, 53, 102, 48, 53, 57, 53, 98, 98, 101, 50, 52, 54, 53, 53, 49, 52, 49, 52, 51, 56, 101, 55, 97, 49, 48, 48, 98]).toArray }] w (NBytesPost sig0 w) := by
  have hh := hexB_is (s := sigHex) (by decide +kernel)
  have h := unhex_c sigHex hh.1 hh.2 64 (by decide +kernel) (by omega) w
  rw [show unhexL sigHex 64 = sig0 by decide +kernel] at h
  exact h
theorem take_sig0 : sig0.take 32 = first0 := by decide +kernel
theorem edCode_some {pub msg sig : List Int} {A : Pt} (h : decB pub = some A) : edCode pub msg sig = if verE A (chal (sig.take 32) pub msg) sig then 0 else 91 := by unfold edCode; rw [h]
theorem chal_k {f p m : List Int} {k : Nat} (h : lnum (sha 3 (f ++ p ++ m)) % eL = k) : chal f p m = k := h
theorem code_yes : edCode pub0 [] sig0 = 0 := by
  have h : chal first0 pub0 [] = k01 := chal_k (by rw [List.append_nil]; exact k01_sha)
  rw [edCode_some A0_dec, take_sig0, h, if_pos known01]
theorem code_no : edCode pub0 [120] sig0 = 91 := by
  have h : chal first0 pub0 [120] = k02 := chal_k k02_sha
  rw [edCode_some A0_dec, take_sig0, h, if_neg known02]
theorem sl_nil8 (w : World) : Sl .u8 w none 0 [] := by
  obtain ⟨a, c, hv, hs⟩ := (New.nil 0 .u8 0 w).sl
  simp only [Value.slice.injEq] at hv
  obtain ⟨rfl, -, rfl⟩ := hv
  exact hs
theorem pub0_u8 : U8 pub0 := .of_mem (by omega) (by decide +kernel)
theorem sig0_u8 : U8 sig0 := .of_mem (by omega) (by decide +kernel)

set_option maxHeartbeats 1000000 in
set_option maxRecDepth 20000 in
theorem known_c (w : World) (tP : TabAt w 0 limbP) (tD : TabAt w 3 limbD) (tI : TabAt w 4 limbI) (tL : TabAt w 2 limbL) (tB : BaseT w 1) (ht : ShaTabs w) :
    Calls Tryd.prog 48 #[] w (fun e w' => e = .returned (.bool true) ∧ Below w.heap.size w w') := by
  have VY := fun (ap as_ : Option Addr) (cp cs : Nat) (W : World) (hp : Sl .u8 W ap cp pub0) (hs : Sl .u8 W as_ cs sig0) (hB : Below w.heap.size w W) => Verify_c (msg := []) hp (sl_nil8 W) hs pub0_u8 (.nil (by omega)) sig0_u8 (by decide) (by decide) (by decide) (tP.below hB) (tD.below hB) (tI.below hB) (tL.below hB) (tB.below hB) (ht.below hB)
  have VN := fun (ap am as_ : Option Addr) (cp cm cs : Nat) (W : World) (hp : Sl .u8 W ap cp pub0) (hm : Sl .u8 W am cm [120]) (hs : Sl .u8 W as_ cs sig0) (hB : Below w.heap.size w W) => Verify_c (msg := [120]) hp hm hs pub0_u8 (.one (by omega) (by omega)) sig0_u8 (by decide) (by decide) (by decide) (tP.below hB) (tD.below hB) (tI.below hB) (tL.below hB) (tB.below hB) (ht.below hB)
  rw [code_yes] at VY
  rw [code_no] at VN
  obtain ⟨np, hnp⟩ : ∃ n, n = pub0.length := ⟨_, rfl⟩
  obtain ⟨ns, hns⟩ : ∃ n, n = sig0.length := ⟨_, rfl⟩
  rw [← hnp, ← hns] at VY VN
  have HP := Lib.hid hnp
  have HS := Lib.hid hns
  clear hnp hns
  go_enter Tryd.func48, Tryd.ntmps48
  go_wp2_with fail
  refine (unhex_pub w).mono ?_; rintro e_ w1 ⟨v1, rfl, hn, hB⟩
  obtain ⟨a1, c1, rfl, s1⟩ := hn.sl
  rw [← HP.out]
  clear hn
  go_wp2_with fail
  refine (unhex_sig w1).mono ?_; rintro e_ w2 ⟨v2, rfl, hn, hb⟩
  obtain ⟨a2, c2, rfl, s2⟩ := hn.sl
  rw [← HS.out]
  replace hB := hB.trans (hb.mono hB.size)
  replace s1 := s1.below hb
  clear hn hb
  have h_ := VY a1 a2 c1 c2 w2 s1 s2 hB
  go_wp2_with fail
  refine h_.mono ?_; rintro e_ w3 ⟨rfl, hb⟩
  replace hB := hB.trans (hb.mono hB.size)
  replace s1 := s1.below hb
  replace s2 := s2.below hb
  clear h_ hb
  have hcv := Lib.run_convert_bytes_const (P := Tryd.prog) w3 22 5 #[.int .u8 120] 1 1 Tryd.underlying22 Tryd.underlying5
  have hb : Below w3.heap.size w3 (w3.alloc (.cells #[.int .u8 120] 5 (1, 2))) := (Below.refl _ _).alloc (Nat.le_refl _) _
  have sm : Sl .u8 (w3.alloc (.cells #[.int .u8 120] 5 (1, 2))) (some ⟨w3.heap.size, 0, none⟩) 1 [120] := by
    refine ⟨by simp, by omega, fun _ => ⟨_, 0, rfl, fun j hj => ?_⟩⟩
    have : j = 0 := by simp at hj; omega
    subst this
    rw [cell_of_row _ w3.heap.size _ #[.int .u8 120] 5 (1, 2) (Go.heap_alloc_new w3 _)]
    simp [nth]
  have h_ := VN a1 _ a2 c1 _ c2 _ (s1.below hb) sm (s2.below hb) (hB.trans (hb.mono hB.size))
  replace hB := hB.trans (hb.mono hB.size)
  clear sm hb s1 s2 VY VN
  go_wp2_with fail
  refine h_.mono ?_; rintro e_ w4 ⟨rfl, hb⟩
  replace hB := hB.trans (hb.mono hB.size)
  go_wp2_with fail
  go_ret
  exact ⟨by first | done | rfl | simp, hB⟩
end Go.Proofs.YtlolkighnnedfaaDoor
/- signetlaw13, outright: awake by its contract. (Printed by gen_edod.py.) -/
set_option linter.unusedVariables false
set_option linter.unusedSimpArgs false
namespace Go.Proofs.YtlolkighnnedfaaDoor
open Go.RowKit Go.Sg

set_option maxHeartbeats 4000000 in
set_option maxRecDepth 20000 in
theorem awake_c (w : World) (tP : TabAt w 0 limbP) (tD : TabAt w 3 limbD) (tI : TabAt w 4 limbI) (tL : TabAt w 2 limbL) (tB : BaseT w 1) (ht : ShaTabs w) :
    Calls Tryd.prog 12 #[] w (fun e w' => e = .returned (.bool true) ∧ Below w.heap.size w w') := by
  obtain ⟨Q, hQ⟩ : ∃ Q, Q = eAdd eB eB := ⟨_, rfl⟩
  have OQ : Hid (OnC Q) := Lib.hid (by rw [hQ]; exact eAdd_on eB_on eB_on)
  have HM : Hid (eMul 2 eB = Q) := Lib.hid (by rw [hQ]; exact eMul_two eB_on)
  have HN : Hid (¬ (Q.1.val = eB.1.val ∧ Q.2.val = eB.2.val)) := Lib.hid (fun h => two_no (by rw [← hQ]; exact Prod.ext (fp_ext h.1) (fp_ext h.2)))
  have HA : Hid (eAdd eB eB = Q) := Lib.hid hQ.symm
  clear hQ
  go_enter Tryd.func12, Tryd.ntmps12
  have hB := Below.refl w.heap.size w
  go_wp2_with fail
  refine (Base_c w (tB.below hB)).mono ?_; rintro e_ w1 ⟨v6, rfl, hn, hb⟩
  obtain ⟨gbx, gby, rfl, hg1_, hg2_, _, kbx_, kby_⟩ := hn
  have kbx : Blk _ gbx .u32 95 limbX := kbx_
  have kby : Blk _ gby .u32 95 limbY := kby_
  have HB_kbx : Hid (w.heap.size ≤ gbx) := Lib.hid (Nat.le_trans hB.size hg1_)
  have HB_kby : Hid (w.heap.size ≤ gby) := Lib.hid (Nat.le_trans hB.size hg2_)
  clear kbx_ kby_ hg1_ hg2_
  replace hB := hB.trans (hb.mono hB.size)
  clear hb
  go_wp2_with (refine wpList_alloc_agg rfl 29 rfl [(.slice none 0 0), (.slice none 0 0), (.bool false)] 3 (by kernel_rfl) ?_)
  intro w2 hk1 hb
  have hz_ := hB.size
  have ltb_kbx := kbx.lt
  have ltb_kby := kby.lt
  replace hB := hB.trans (hb.mono hB.size)
  replace kbx := kbx.keep hb
  replace kby := kby.keep hb
  clear hb
  obtain ⟨g1, hg_⟩ : ∃ g, g = w1.heap.size := ⟨_, rfl⟩
  rw [← hg_] at hk1 ⊢
  have HG1 : Hid (w.heap.size ≤ g1) := Lib.hid (by rw [hg_]; exact hz_)
  have nb_kbx_1 : Hid (gbx ≠ g1) := Lib.hid (by rw [hg_]; exact Nat.ne_of_lt ltb_kbx)
  clear ltb_kbx
  have nb_kby_1 : Hid (gby ≠ g1) := Lib.hid (by rw [hg_]; exact Nat.ne_of_lt ltb_kby)
  clear ltb_kby
  clear hg_ hz_
  go_wp2_with (refine wpList_store_agg rfl 29 _ _ rfl g1 29 [(.slice none 0 0), (.slice none 0 0), (.bool false)] [(.slice (some ⟨gbx, 0, none⟩) 8 8), (.slice (some ⟨gby, 0, none⟩) 8 8), (.bool false)] rfl rfl hk1 size_pt (by intro v_ hv_; simp only [List.mem_cons, List.not_mem_nil, or_false] at hv_; rcases hv_ with rfl | rfl | rfl <;> first | rfl | exact (CanAt.rw8 kbx lim8_X).one_cell | exact (CanAt.rw8 kby lim8_Y).one_cell) rfl ?_)
  intro w3 hn hg
  replace hB := hB.grown hg hB.size (by intro k_ hk_; cases hk_; exact HG1.out)
  replace kbx := kbx.grown hg (fun e_ => nb_kbx_1.out (Option.some.inj e_))
  replace kby := kby.grown hg (fun e_ => nb_kby_1.out (Option.some.inj e_))
  replace hk1 := hn
  clear hn hg
  have h_ := add_ok (P := eB) (Q := eB) ⟨_, _, rfl, (CanAt.rw8 kbx lim8_X).num, (CanAt.rw8 kby lim8_Y).num⟩ ⟨_, _, rfl, (CanAt.rw8 kbx lim8_X).num, (CanAt.rw8 kby lim8_Y).num⟩ eB_on eB_on (tP.below hB) (tD.below hB)
  rw [HA.out] at h_
  go_wp2_with (first | refine wpList_load_agg rfl 29 _ rfl g1 rfl _ [(.slice (some ⟨gbx, 0, none⟩) 8 8), (.slice (some ⟨gby, 0, none⟩) 8 8), (.bool false)] _ hk1 Tryd.underlying29 rfl size_pt ?_ | refine wpList_load_agg rfl 29 _ rfl g1 rfl _ [(.slice (some ⟨gbx, 0, none⟩) 8 8), (.slice (some ⟨gby, 0, none⟩) 8 8), (.bool false)] _ hk1 Tryd.underlying29 rfl size_pt ?_)
  refine (h_).mono ?_; rintro e_ w4 ⟨v10, rfl, hn, hb⟩
  obtain ⟨v10x, v10y, rfl, h1_, h2_, _⟩ := hn
  have off_r10x_1 := NatRes.off_new h1_ hk1.lt
  have off_r10y_1 := NatRes.off_new h2_ hk1.lt
  have r10x := h1_.mono (Nat.zero_le _)
  have r10y := h2_.mono (Nat.zero_le _)
  obtain ⟨av10x, nv10x, pv10x, rfl⟩ := r10x.fp.sliced
  obtain ⟨av10y, nv10y, pv10y, rfl⟩ := r10y.fp.sliced
  clear h1_ h2_
  replace hB := hB.trans (hb.mono hB.size)
  replace kbx := kbx.keep hb
  replace kby := kby.keep hb
  replace hk1 := hk1.keep hb
  clear hb h_
  go_wp2_with (refine wpList_alloc_agg rfl 29 rfl [(.slice none 0 0), (.slice none 0 0), (.bool false)] 3 (by kernel_rfl) ?_)
  intro w5 hk2 hb
  have hz_ := hB.size
  have lt1_ := hk1.lt
  have ltb_kbx := kbx.lt
  have ltb_kby := kby.lt
  have off_r10x_2 := NatRes.off_old r10x
  have off_r10y_2 := NatRes.off_old r10y
  replace hB := hB.trans (hb.mono hB.size)
  replace kbx := kbx.keep hb
  replace kby := kby.keep hb
  replace hk1 := hk1.keep hb
  replace r10x := r10x.below hb
  replace r10y := r10y.below hb
  clear hb
  obtain ⟨g2, hg_⟩ : ∃ g, g = w4.heap.size := ⟨_, rfl⟩
  rw [← hg_] at hk2 off_r10x_2 off_r10y_2 ⊢
  have HG2 : Hid (w.heap.size ≤ g2) := Lib.hid (by rw [hg_]; exact hz_)
  have NE1_2 : Hid (g1 ≠ g2) := Lib.hid (by rw [hg_]; exact Nat.ne_of_lt lt1_)
  have nb_kbx_2 : Hid (gbx ≠ g2) := Lib.hid (by rw [hg_]; exact Nat.ne_of_lt ltb_kbx)
  clear ltb_kbx
  have nb_kby_2 : Hid (gby ≠ g2) := Lib.hid (by rw [hg_]; exact Nat.ne_of_lt ltb_kby)
  clear ltb_kby
  clear hg_ hz_ lt1_
  go_wp2_with (refine wpList_store_agg rfl 29 _ _ rfl g2 29 [(.slice none 0 0), (.slice none 0 0), (.bool false)] [(.slice av10x nv10x pv10x), (.slice av10y nv10y pv10y), (.bool false)] rfl rfl hk2 size_pt (by intro v_ hv_; simp only [List.mem_cons, List.not_mem_nil, or_false] at hv_; rcases hv_ with rfl | rfl | rfl <;> first | rfl | exact r10x.fp.one_cell | exact r10y.fp.one_cell) rfl ?_)
  intro w6 hn hg
  replace hB := hB.grown hg hB.size (by intro k_ hk_; cases hk_; exact HG2.out)
  replace kbx := kbx.grown hg (fun e_ => nb_kbx_2.out (Option.some.inj e_))
  replace kby := kby.grown hg (fun e_ => nb_kby_2.out (Option.some.inj e_))
  replace hk1 := hk1.grown hg (fun e_ => NE1_2.out (Option.some.inj e_))
  replace r10x := r10x.off off_r10x_2 hg
  replace r10y := r10y.off off_r10y_2 hg
  replace hk2 := hn
  clear hn hg
  go_wp2_with (refine wpList_lit rfl 27 36 _ rfl Tryd.underlying27 info32e 2 rfl ?_)
  intro w7 hl hb
  have c14 := (NatRes.lit (c := 2) hl (Nat.zero_le _) (by omega) (by omega)).can (k := 1) (by exact ⟨by decide +kernel⟩) (by omega)
  obtain ⟨v14, hv14⟩ : ∃ v, v = Value.slice (some ⟨w6.heap.size, 0, none⟩) 1 1 := ⟨_, rfl⟩
  rw [← hv14] at c14 ⊢
  clear hv14 hl
  replace hB := hB.trans (hb.mono hB.size)
  replace kbx := kbx.keep hb
  replace kby := kby.keep hb
  replace hk1 := hk1.keep hb
  replace r10x := r10x.below hb
  replace r10y := r10y.below hb
  replace hk2 := hk2.keep hb
  clear hb
  have h_ := mul_ok (P := eB) c14.num ⟨_, _, rfl, (CanAt.rw8 kbx lim8_X).num, (CanAt.rw8 kby lim8_Y).num⟩ eB_on (by decide +kernel) (tP.below hB) (tD.below hB)
  rw [HM.out] at h_
  go_wp2_with (refine wpList_load_agg rfl 29 _ rfl g1 rfl _ [(.slice (some ⟨gbx, 0, none⟩) 8 8), (.slice (some ⟨gby, 0, none⟩) 8 8), (.bool false)] _ hk1 Tryd.underlying29 rfl size_pt ?_)
  refine (h_).mono ?_; rintro e_ w8 ⟨v16, rfl, hn, hb⟩
  obtain ⟨v16x, v16y, rfl, h1_, h2_, _⟩ := hn
  have off_r16x_1 := NatRes.off_new h1_ hk1.lt
  have off_r16x_2 := NatRes.off_new h1_ hk2.lt
  have off_r16y_1 := NatRes.off_new h2_ hk1.lt
  have off_r16y_2 := NatRes.off_new h2_ hk2.lt
  have r16x := h1_.mono (Nat.zero_le _)
  have r16y := h2_.mono (Nat.zero_le _)
  obtain ⟨av16x, nv16x, pv16x, rfl⟩ := r16x.fp.sliced
  obtain ⟨av16y, nv16y, pv16y, rfl⟩ := r16y.fp.sliced
  clear h1_ h2_
  replace hB := hB.trans (hb.mono hB.size)
  replace kbx := kbx.keep hb
  replace kby := kby.keep hb
  replace hk1 := hk1.keep hb
  replace r10x := r10x.below hb
  replace r10y := r10y.below hb
  replace hk2 := hk2.keep hb
  replace c14 := c14.below hb
  clear hb h_
  go_wp2_with (refine wpList_alloc_agg rfl 29 rfl [(.slice none 0 0), (.slice none 0 0), (.bool false)] 3 (by kernel_rfl) ?_)
  intro w9 hk4 hb
  have hz_ := hB.size
  have lt1_ := hk1.lt
  have lt2_ := hk2.lt
  have ltb_kbx := kbx.lt
  have ltb_kby := kby.lt
  have off_r10x_4 := NatRes.off_old r10x
  have off_r10y_4 := NatRes.off_old r10y
  have off_r16x_4 := NatRes.off_old r16x
  have off_r16y_4 := NatRes.off_old r16y
  replace hB := hB.trans (hb.mono hB.size)
  replace kbx := kbx.keep hb
  replace kby := kby.keep hb
  replace hk1 := hk1.keep hb
  replace r10x := r10x.below hb
  replace r10y := r10y.below hb
  replace hk2 := hk2.keep hb
  replace c14 := c14.below hb
  replace r16x := r16x.below hb
  replace r16y := r16y.below hb
  clear hb
  obtain ⟨g4, hg_⟩ : ∃ g, g = w8.heap.size := ⟨_, rfl⟩
  rw [← hg_] at hk4 off_r10x_4 off_r10y_4 off_r16x_4 off_r16y_4 ⊢
  have HG4 : Hid (w.heap.size ≤ g4) := Lib.hid (by rw [hg_]; exact hz_)
  have NE1_4 : Hid (g1 ≠ g4) := Lib.hid (by rw [hg_]; exact Nat.ne_of_lt lt1_)
  have NE2_4 : Hid (g2 ≠ g4) := Lib.hid (by rw [hg_]; exact Nat.ne_of_lt lt2_)
  have nb_kbx_4 : Hid (gbx ≠ g4) := Lib.hid (by rw [hg_]; exact Nat.ne_of_lt ltb_kbx)
  clear ltb_kbx
  have nb_kby_4 : Hid (gby ≠ g4) := Lib.hid (by rw [hg_]; exact Nat.ne_of_lt ltb_kby)
  clear ltb_kby
  clear hg_ hz_ lt1_ lt2_
  go_wp2_with (refine wpList_store_agg rfl 29 _ _ rfl g4 29 [(.slice none 0 0), (.slice none 0 0), (.bool false)] [(.slice av16x nv16x pv16x), (.slice av16y nv16y pv16y), (.bool false)] rfl rfl hk4 size_pt (by intro v_ hv_; simp only [List.mem_cons, List.not_mem_nil, or_false] at hv_; rcases hv_ with rfl | rfl | rfl <;> first | rfl | exact r16x.fp.one_cell | exact r16y.fp.one_cell) rfl ?_)
  intro w10 hn hg
  replace hB := hB.grown hg hB.size (by intro k_ hk_; cases hk_; exact HG4.out)
  replace kbx := kbx.grown hg (fun e_ => nb_kbx_4.out (Option.some.inj e_))
  replace kby := kby.grown hg (fun e_ => nb_kby_4.out (Option.some.inj e_))
  replace hk1 := hk1.grown hg (fun e_ => NE1_4.out (Option.some.inj e_))
  replace r10x := r10x.off off_r10x_4 hg
  replace r10y := r10y.off off_r10y_4 hg
  replace hk2 := hk2.grown hg (fun e_ => NE2_4.out (Option.some.inj e_))
  clear c14
  replace r16x := r16x.off off_r16x_4 hg
  replace r16y := r16y.off off_r16y_4 hg
  replace hk4 := hn
  clear hn hg
  have h_ := on13_c (inf := false) (CanAt.rw8 kbx lim8_X) (CanAt.rw8 kby lim8_Y)
  rw [onB_of eB_on] at h_
  have q0_ := hk1.cell 0 rfl
  have q1_ := hk1.cell 1 rfl
  have q2_ := hk1.cell 2 rfl
  go_wp2_with fail
  refine (h_).mono ?_; rintro e_ w11 ⟨rfl, hb⟩
  clear q0_ q1_ q2_
  replace hB := hB.trans (hb.mono hB.size)
  replace kbx := kbx.keep hb
  replace kby := kby.keep hb
  replace hk1 := hk1.keep hb
  replace r10x := r10x.below hb
  replace r10y := r10y.below hb
  replace hk2 := hk2.keep hb
  replace r16x := r16x.below hb
  replace r16y := r16y.below hb
  replace hk4 := hk4.keep hb
  clear hb h_
  have h_ := on13_c (inf := false) r10x.fp r10y.fp
  rw [onB_of OQ.out] at h_
  have q0_ := hk2.cell 0 rfl
  have q1_ := hk2.cell 1 rfl
  have q2_ := hk2.cell 2 rfl
  go_wp2_with fail
  refine (h_).mono ?_; rintro e_ w12 ⟨rfl, hb⟩
  clear q0_ q1_ q2_
  replace hB := hB.trans (hb.mono hB.size)
  replace kbx := kbx.keep hb
  replace kby := kby.keep hb
  replace hk1 := hk1.keep hb
  replace r10x := r10x.below hb
  replace r10y := r10y.below hb
  replace hk2 := hk2.keep hb
  replace r16x := r16x.below hb
  replace r16y := r16y.below hb
  replace hk4 := hk4.keep hb
  clear hb h_
  have h_ := one_c ⟨_, _, rfl, r10x.fp, r10y.fp⟩ ⟨_, _, rfl, r16x.fp, r16y.fp⟩
  rw [show decide (Q.1.val = Q.1.val ∧ Q.2.val = Q.2.val) = true from decide_eq_true ⟨rfl, rfl⟩] at h_
  have q0_ := hk2.cell 0 rfl
  have q1_ := hk2.cell 1 rfl
  have q2_ := hk2.cell 2 rfl
  have q3_ := hk4.cell 0 rfl
  have q4_ := hk4.cell 1 rfl
  have q5_ := hk4.cell 2 rfl
  go_wp2_with fail
  refine (h_).mono ?_; rintro e_ w13 ⟨rfl, hb⟩
  clear q0_ q1_ q2_ q3_ q4_ q5_
  replace hB := hB.trans (hb.mono hB.size)
  replace kbx := kbx.keep hb
  replace kby := kby.keep hb
  replace hk1 := hk1.keep hb
  replace r10x := r10x.below hb
  replace r10y := r10y.below hb
  replace hk2 := hk2.keep hb
  replace r16x := r16x.below hb
  replace r16y := r16y.below hb
  replace hk4 := hk4.keep hb
  clear hb h_
  have h_ := one_c ⟨_, _, rfl, r10x.fp, r10y.fp⟩ ⟨_, _, rfl, CanAt.rw8 kbx lim8_X, CanAt.rw8 kby lim8_Y⟩
  rw [decide_eq_false HN.out] at h_
  have q0_ := hk2.cell 0 rfl
  have q1_ := hk2.cell 1 rfl
  have q2_ := hk2.cell 2 rfl
  have q3_ := hk1.cell 0 rfl
  have q4_ := hk1.cell 1 rfl
  have q5_ := hk1.cell 2 rfl
  go_wp2_with fail
  refine (h_).mono ?_; rintro e_ w14 ⟨rfl, hb⟩
  clear q0_ q1_ q2_ q3_ q4_ q5_
  replace hB := hB.trans (hb.mono hB.size)
  replace kbx := kbx.keep hb
  replace kby := kby.keep hb
  replace hk1 := hk1.keep hb
  replace r10x := r10x.below hb
  replace r10y := r10y.below hb
  replace hk2 := hk2.keep hb
  replace r16x := r16x.below hb
  replace r16y := r16y.below hb
  replace hk4 := hk4.keep hb
  clear hb h_
  go_wp2_with fail
  refine (known_c w14 (tP.below hB) (tD.below hB) (tI.below hB) (tL.below hB) (tB.below hB) (ht.below hB)).mono ?_; rintro e_ w15 ⟨rfl, hb⟩
  replace hB := hB.trans (hb.mono hB.size)
  replace kbx := kbx.keep hb
  replace kby := kby.keep hb
  replace hk1 := hk1.keep hb
  replace r10x := r10x.below hb
  replace r10y := r10y.below hb
  replace hk2 := hk2.keep hb
  replace r16x := r16x.below hb
  replace r16y := r16y.below hb
  replace hk4 := hk4.keep hb
  clear hb
  go_wp2_with fail
  go_ret
  exact ⟨by first | done | rfl | simp, hB⟩
end Go.Proofs.YtlolkighnnedfaaDoor
/- The answers of Decode and Encode in one form, for the outright laws. (Cut out of EdBytesL.) -/
set_option linter.unusedVariables false
set_option linter.unusedSimpArgs false
namespace Go.Proofs.YtlolkighnnedfaaDoor
open Go.RowKit Go.Sg
/-- The answer to Decode. -/
def decG (r : Option Pt) : Int × Nat × Nat := match r with
  | some P => ptA P
  | none => noA 93
theorem decG_small (r : Option Pt) : Small (decG r) := by
  cases r with
  | some P => exact small_pt _
  | none => exact small_no _
theorem DecPost.ansG {r : Option Pt} {W : World} {e : Ending} {w' : World} (h : DecPost r W e w') : AnsPost (decG r) W e w' := by
  cases r with
  | some P => exact PtOk.ans h
  | none => exact NoPt.ans h
/-- The answer to Encode. -/
def encG (X Y : Nat) (i : Bool) : Int × List Int := match ptOf X Y i with
  | some Q => (0, encB Q)
  | none => (93, [])
def EncAnsG (r : Int × List Int) (W : World) (e : Ending) (w' : World) : Prop := ∃ a c, e = .returned (.tuple #[.slice a r.2.length c, .int .i64 r.1]) ∧ Sl .u8 w' a c r.2 ∧ Below W.heap.size W w'
theorem EncOk.ansG {Q : Pt} {W : World} {e : Ending} {w' : World} (h : EncOk Q W e w') : EncAnsG (0, encB Q) W e w' := by
  obtain ⟨v, rfl, hn, hb⟩ := h
  obtain ⟨a, c, rfl, hs⟩ := hn.sl
  exact ⟨a, c, rfl, hs, hb⟩
theorem EncNo.ansG {W : World} {e : Ending} {w' : World} (h : EncNo W e w') : EncAnsG (93, []) W e w' := by
  obtain ⟨rfl, hb⟩ := h
  obtain ⟨a, c, hv, hs⟩ := (New.nil 0 .u8 0 w').sl
  simp only [Value.slice.injEq] at hv
  obtain ⟨rfl, -, rfl⟩ := hv
  exact ⟨_, _, rfl, hs, hb⟩
section
variable {va : Value} {X Y : Nat} {i : Bool} {w : World}
theorem enc_anyG (ha : PtIn w va X Y i) (tP : TabAt w 0 limbP) (tD : TabAt w 3 limbD) : Calls Tryd.prog 17 #[va] w (EncAnsG (encG X Y i) w) := by
  unfold encG
  cases h1 : ptOf X Y i with
  | none => exact (enc_no ha (onB_none h1) tP tD).mono fun e w' h => h.ansG
  | some P =>
    obtain ⟨rfl, rfl, rfl, o1⟩ := ptOf_some h1
    exact (enc_ok ha o1 tP tD).mono fun e w' h => h.ansG
end
end Go.Proofs.YtlolkighnnedfaaDoor
/- What the outright laws of layer 13 ask of Verify's answer, in plain words. No walk. -/
set_option linter.unusedVariables false
set_option linter.unusedSimpArgs false
namespace Go.Proofs.YtlolkighnnedfaaDoor
open Go.RowKit Go.Sg
theorem bl_mono {n m : Nat} (h : n ≤ m) : bl n ≤ bl m := (bl_le_iff n (bl m)).2 (Nat.lt_of_le_of_lt h (lt_bl m))
theorem bl_eL : bl eL ≤ 1024 := by decide +kernel
theorem bl_below {n : Nat} (h : n < eL) : bl n ≤ 1024 := Nat.le_trans (bl_mono (Nat.le_of_lt h)) bl_eL
theorem encB_u8 (P : Pt) : U8 (encB P) := by unfold encB; exact (beN_u8 _ _).reverse (by omega)
theorem leB_u8 (n : Nat) : U8 (leB n) := by unfold leB; exact (beN_u8 _ _).reverse (by omega)
theorem chal_lt (f p m : List Int) : chal f p m < eL := Nat.mod_lt _ eL_pos
theorem bigB_bl {n : Nat} (h : bl n ≤ 1024) : bigB n = false := decide_eq_false (by omega)
theorem below_256 {n : Nat} (h : n < eL) : n < 256 ^ 32 := Nat.lt_trans h eL_lt
theorem below_two {n : Nat} (h : n < eL) : n + eL < 256 ^ 32 := Nat.lt_of_lt_of_le (Nat.add_lt_add_right h eL) (Nat.le_of_lt eL_two)
/-- What the mathematical signer makes is taken. -/
theorem code_signed (A R : Nat) (msg : List Int) {p f : List Int} (hp : p = encB (eMul A eB)) (hf : f = encB (eMul R eB)) {k s : Nat} (hk : k = chal f p msg) (hs : s = (k * A % eL + R) % eL) : edCode p msg (f ++ leB s) = 0 := by
  subst hp hf hk hs
  rw [edCode_some (decB_encB (eMul_on eB_on A)), List.take_left' (encB_len _), if_pos]
  rw [Nat.mod_add_mod]
  exact signed
/-- With S above L it is not. -/
theorem code_more (A R : Nat) (msg : List Int) {p f : List Int} (hp : p = encB (eMul A eB)) (hf : f = encB (eMul R eB)) {s : Nat} (hs : s < eL) : edCode p msg (f ++ leB (s + eL)) = 91 := by
  subst hp hf
  rw [edCode_some (decB_encB (eMul_on eB_on A)), if_neg (signed_not (encB_len _) hs)]
theorem code_none {p m s : List Int} (h : decB p = none) : edCode p m s = 90 := by unfold edCode; rw [h]
theorem code_short {p m s : List Int} {A : Pt} (h : decB p = some A) (hl : ¬ s.length = 64) : edCode p m s = 91 := by rw [edCode_some h, if_neg (fun v => hl v.1)]
theorem code_high {p m s : List Int} {A : Pt} (h : decB p = some A) (hl : ¬ lnum (s.drop 32) < eL) : edCode p m s = 91 := by rw [edCode_some h, if_neg (fun v => hl v.2.1)]
theorem code_just {p m s : List Int} {A : Pt} (h : decB p = some A) (h1 : s.length = 64) (h2 : lnum (s.drop 32) < eL) :
    edCode p m s = if encB (eAdd (eMul (lnum (s.drop 32)) eB) (eMul (chal (s.take 32) p m) (eNeg A))) = s.take 32 then 0 else 91 := by
  rw [edCode_some h]
  by_cases e : encB (eAdd (eMul (lnum (s.drop 32)) eB) (eMul (chal (s.take 32) p m) (eNeg A))) = s.take 32
  · rw [if_pos ⟨h1, h2, e⟩, if_pos e]
  · rw [if_neg (fun v => e v.2.2), if_neg e]
/-- A product and a sum modulo the order, of numbers that are not too large. -/
theorem mulL_v {v v' v'' : Value} {n m : Nat} {w : World} (h : NumAt w v n) (h' : NumAt w v' m) (h'' : NumAt w v'' eL) (b1 : bigB n = false) (b2 : bigB m = false) :
    Calls Tryd.prog 45 #[v, v', v''] w (OkPost (n * m % eL) w) := by
  have mc := mMul_v h h' h''
  rw [(⟨b1, b2, bigL, twoL⟩ : Ok3 n m eL).code] at mc
  refine mc.mono fun e w' hm => ?_
  obtain ⟨v2, rfl, hr⟩ := hm.2.1 rfl
  exact ⟨v2, rfl, hr.can (lim_eL.le (Nat.le_of_lt (Nat.mod_lt _ eL_pos))) (by omega), hm.2.2⟩
theorem addL_v {v v' v'' : Value} {n m : Nat} {w : World} (h : NumAt w v n) (h' : NumAt w v' m) (h'' : NumAt w v'' eL) (b1 : bigB n = false) (b2 : bigB m = false) :
    Calls Tryd.prog 46 #[v, v', v''] w (OkPost ((n + m) % eL) w) := by
  have mc := mAdd_v h h' h''
  rw [(⟨b1, b2, bigL, twoL⟩ : Ok3 n m eL).code] at mc
  refine mc.mono fun e w' hm => ?_
  obtain ⟨v2, rfl, hr⟩ := hm.2.1 rfl
  exact ⟨v2, rfl, hr.can (lim_eL.le (Nat.le_of_lt (Nat.mod_lt _ eL_pos))) (by omega), hm.2.2⟩
end Go.Proofs.YtlolkighnnedfaaDoor
/- What EdSpares collects: points' numbers as lists of the call's own; rows of slices grown inside a region that draws; what stays beside a family. (By hand.) -/
set_option linter.unusedVariables false
set_option linter.unusedSimpArgs false
namespace Go.Sg
open Go.RowKit
section
variable {B n : Nat} {k : IntKind} {E F : TypeId} {w w' : World} {V : Nat → Value} {A : Nat → List Int}
theorem FamV.other {row : Option Nat} (h : FamV B k E F w n V A) (hg : w.grownBy w' row) (hr : ∀ g, row = some g → w.heap.size ≤ g) : FamV B k E F w' n V A :=
  h.grown hg fun i hi g hv e => by have := ((h.new i hi).lt g hv).2; have := hr g e.symm; omega
/-- Two lists at once, apart from one another. -/
theorem FamV.push2 {v u : Value} {xs ys : List Int} (h : FamV B k E F w n V A) (hv : NewA B k E F w' v xs) (hu : NewA B k E F w' u ys) (hb : Below w.heap.size w w') (hf : ∀ g, v.ownBlock = some g → w.heap.size ≤ g) (hf2 : ∀ g, u.ownBlock = some g → w.heap.size ≤ g) (ha : ∀ g, v.ownBlock = some g → u.ownBlock ≠ some g) :
    ∃ V' A', FamV B k E F w' (n + 2) V' A' ∧ (List.range (n + 2)).map V' = (List.range n).map V ++ [v, u] ∧ (∀ j, j < n → A' j = A j) ∧ A' n = xs ∧ A' (n + 1) = ys := by
  have h2 := h.keep hb
  have ev : ∀ j, j < n → (if j < n then V j else if j = n then v else u) = V j := fun j hj => if_pos hj
  have ev1 : (if n < n then V n else if n = n then v else u) = v := by rw [if_neg (by omega), if_pos rfl]
  have ev2 : (if n + 1 < n then V (n + 1) else if n + 1 = n then v else u) = u := by rw [if_neg (by omega), if_neg (by omega)]
  refine ⟨fun j => if j < n then V j else if j = n then v else u, fun j => if j < n then A j else if j = n then xs else ys, ⟨fun i hi => ?_, fun i j hi hj hne g hg => ?_⟩, ?_, fun j hj => if_pos hj, by simp, by show (if n + 1 < n then A (n + 1) else if n + 1 = n then xs else ys) = ys; rw [if_neg (by omega), if_neg (by omega)]⟩
  · by_cases e : i < n
    · simp only [e, if_true]; exact h2.new i e
    · by_cases e2 : i = n
      · simp only [e, if_false, e2, if_true, Nat.lt_irrefl]; exact hv
      · simp only [e, if_false, e2]; exact hu
  · have low : ∀ m, m < n → ∀ g, (V m).ownBlock = some g → g < w.heap.size := fun m hm g hg => ((h.new m hm).lt g hg).2
    by_cases e1 : i < n <;> by_cases e2 : j < n <;> simp only [e1, e2, if_true, if_false] at hg ⊢
    · exact h.apart i j e1 e2 hne g hg
    · intro hg2
      have := low i e1 g hg
      by_cases e3 : j = n
      · simp only [e3, if_true] at hg2; have := hf g hg2; omega
      · simp only [e3, if_false] at hg2; have := hf2 g hg2; omega
    · intro hg2
      have := low j e2 g hg2
      by_cases e3 : i = n
      · simp only [e3, if_true] at hg; have := hf g hg; omega
      · simp only [e3, if_false] at hg; have := hf2 g hg; omega
    · by_cases e3 : i = n <;> by_cases e4 : j = n <;> simp only [e3, e4, if_true, if_false] at hg ⊢
      · omega
      · exact ha g hg
      · intro hg2; exact ha g hg2 hg
      · omega
  · rw [List.range_succ, List.range_succ, List.map_append, List.map_append, List.append_assoc]
    congr 1
    · exact List.map_congr_left fun j hj => ev j (List.mem_range.1 hj)
    · simp only [List.map_cons, List.map_nil, List.cons_append, List.nil_append]
      rw [ev2]
      simp
end
section
variable {P : Program} {w : World} {o : Oper} {a : Act} {Q : Exit → Act → World → Prop} {K : Act → World → Prop}
theorem wp_append_newVs (s x : Operand) (t : TypeId)
    (ho : o.op = .call { callee := .builtin .append, args := #[s, x], argTypes := #[t, t] }) (B : Nat) (e : TypeId) (bytes : Nat) (ht : P.underlying t = some (.slice e))
    (hi : (P.info? e).map (fun i => (i.zero, i.size, i.bytes)) = some (some (.slice none 0 0), 1, bytes)) (v : Value) (vs : List Value) (hs : a.eval s = v) (hv : NewV B e w v vs)
    (ad : Addr) (c : Nat) (us : List Value) (hone : ∀ u ∈ us, ∃ a n c, u = Value.slice a n c) (hx : a.eval x = .slice (some ad) us.length c) (hu : ∀ (j : Nat) (x : Value), us[j]? = some x → w.cell? (ad.add j) = some x) (hp : 0 < us.length) (hm : vs.length + us.length ≤ 9223372036854775807) (hbytes : (vs.length + us.length) * bytes ≤ 140737488355328) (hB : B ≤ w.heap.size)
    (h : ∀ v' w', NewV B e w' v' (vs ++ us) → w.grownBy w' v.ownBlock → (v'.ownBlock = v.ownBlock ∨ ∃ g, v'.ownBlock = some g ∧ w.heap.size ≤ g) → K (a.put o.dst v') w') : o.wp P a w K Q := by
  obtain ⟨v', w', hr, h2, h3, h4⟩ := run_append_newVs (P := P) w B t o.type e bytes ht hi v vs hv ad c us hone hu hp hm hbytes hB
  unfold Oper.wp execOp
  simp only [ho, resolve, invoke, builtin, Sem.run_bind, Sem.run_pure, Result.andThen_ok, List.map_toArray, List.map_cons, List.map_nil, hs, hx, hr]
  exact h v' w' h2 h3 h4
end
/-- A list that says a number, as short as may be. -/
def NumL (zs : List Int) (n : Nat) : Prop := Canon zs ∧ U32 zs ∧ val zs = n ∧ zs.length ≤ 8
theorem NumL.ext {xs ys : List Int} {n : Nat} (h : NumL xs n) (h' : NumL ys n) : xs = ys := h.1.ext h'.1 h.2.1 h'.2.1 (h.2.2.1.trans h'.2.2.1.symm)
theorem NumL.nil : NumL [] 0 := ⟨.nil, by intro j; simp [nth], rfl, by simp⟩
theorem NewA.by_blocks {B : Nat} {k : IntKind} {E F : TypeId} {w w' : World} {v : Value} {xs : List Int} (h : NewA B k E F w v xs) (e : ∀ g, v.ownBlock = some g → w'.heap[g]? = w.heap[g]?) : NewA B k E F w' v xs := by
  rcases h with h | ⟨h, r⟩
  · exact .inl (h.by_blocks e)
  · exact .inr ⟨h.by_blocks e, r⟩
/-- What was made behind the family's blocks stays. -/
theorem Lists.fr {B n m : Nat} {k : IntKind} {E F T : TypeId} {w w' : World} {l : Value} {V U : Nat → Value} {A : Nat → List Int} (h : Lists B k E F T w l n V A) (fr : FrV U m w w') (hU : ∀ j, j < m → ∀ g, (U j).ownBlock = some g → g < B) : Lists B k E F T w' l n V A :=
  ⟨h.row.by_blocks fun g hg => fr.2 g (h.row.lt g hg).2 fun j hj e => by have := hU j hj g e; have := (h.row.lt g hg).1; omega,
   ⟨fun i hi => (h.fam.new i hi).by_blocks fun g hg => fr.2 g ((h.fam.new i hi).lt g hg).2 fun j hj e => by have := hU j hj g e; have := ((h.fam.new i hi).lt g hg).1; omega, h.fam.apart⟩⟩
/-- What lies in rows of other types stays. -/
theorem New.aside2 {B B' : Nat} {k k' : IntKind} {E E' : TypeId} {w : World} {v u : Value} {xs ys : List Int} (h : New B k E w v xs) (hu : New B' k' E' w u ys) (hne : E' ≠ E) : ∀ g, u.ownBlock = some g → v.ownBlock ≠ some g := by
  intro g hg e
  rcases h with ⟨rfl, _⟩ | ⟨g', cp, cs, rfl, hbg, hh, _⟩
  · simp [Value.ownBlock] at e
  · rcases hu with ⟨rfl, _⟩ | ⟨g2, cap2, cs2, rfl, hb2, hh2, _⟩
    · simp [Value.ownBlock] at hg
    · simp only [Value.ownBlock, Option.some.injEq] at hg e
      subst hg
      subst e
      rw [hh] at hh2
      simp only [Option.some.injEq, Obj.cells.injEq] at hh2
      exact hne hh2.2.1.symm
theorem NewA.aside2 {B B' : Nat} {k k' : IntKind} {E F E' F' : TypeId} {w : World} {v u : Value} {xs ys : List Int} (h : NewA B k E F w v xs) (hu : NewA B' k' E' F' w u ys) (hne : E' ≠ E ∧ E' ≠ F ∧ F' ≠ E ∧ F' ≠ F) : ∀ g, u.ownBlock = some g → v.ownBlock ≠ some g := by
  rcases h with h | ⟨h, _⟩ <;> rcases hu with hu | ⟨hu, _⟩
  · exact h.aside2 hu hne.1
  · exact h.aside2 hu hne.2.2.1
  · exact h.aside2 hu hne.2.1
  · exact h.aside2 hu hne.2.2.2
theorem Lists.frT {B B' n m : Nat} {k k' : IntKind} {E F T E' F' : TypeId} {w w' : World} {l : Value} {V U : Nat → Value} {A C : Nat → List Int} (h : Lists B k E F T w l n V A) (hf : FamV B' k' E' F' w m U C) (fr : FrV U m w w') (hne : E' ≠ E ∧ E' ≠ F ∧ F' ≠ E ∧ F' ≠ F) (hT : E' ≠ T ∧ F' ≠ T) : Lists B k E F T w' l n V A :=
  ⟨h.row.by_blocks fun g hg => fr.2 g (h.row.lt g hg).2 fun j hj e => h.row.aside' (hf.new j hj) hT g e hg.symm,
   ⟨fun i hi => (h.fam.new i hi).by_blocks fun g hg => fr.2 g ((h.fam.new i hi).lt g hg).2 fun j hj e => (h.fam.new i hi).aside2 (hf.new j hj) hne g e hg, h.fam.apart⟩⟩
end Go.Sg
namespace Go.Proofs.YtlolkighnnedfaaDoor
open Go.RowKit Go.Sg
theorem NatRes.numL {B : Nat} {w : World} {v : Value} {n : Nat} {F : TypeId} (h : NatRes B w v n) (hn : n < R ^ 8) : ∃ zs, NewA B .u32 36 F w v zs ∧ NumL zs n := by
  obtain ⟨zs, h1, h2, h3, h4⟩ := h
  exact ⟨zs, .inl h1, h2, h3, h4, h2.len_lt h3 (by rw [h4]; exact hn)⟩
theorem fp_R8 (x : Fp) : x.val < R ^ 8 := Nat.lt_of_lt_of_le x.isLt (by decide +kernel)
theorem ptres_two {B : Nat} {w : World} {v : Value} {P : Pt} {F : TypeId} (h : PtRes B w v P) : ∃ vx vy zx zy, v = .agg #[vx, vy, .bool false] ∧ NewA B .u32 36 F w vx zx ∧ NewA B .u32 36 F w vy zy ∧ NumL zx P.1.val ∧ NumL zy P.2.val ∧ ∀ b, vx.ownBlock = some b → vy.ownBlock ≠ some b := by
  obtain ⟨vx, vy, e, h1, h2, h3⟩ := h
  obtain ⟨zx, n1, m1⟩ := NatRes.numL (F := F) h1 (fp_R8 _)
  obtain ⟨zy, n2, m2⟩ := NatRes.numL (F := F) h2 (fp_R8 _)
  exact ⟨vx, vy, zx, zy, e, n1, n2, m1, m2, h3⟩
end Go.Proofs.YtlolkighnnedfaaDoor
/- The points' calls as EdSpares asks for them: two lists of the call's own, apart, that say two numbers. (By hand.) -/
set_option linter.unusedVariables false
set_option linter.unusedSimpArgs false
namespace Go.Sg
open Go.RowKit
theorem NewV.asideV {B B' : Nat} {E E' : TypeId} {w : World} {v u : Value} {vs us : List Value} (h : NewV B E w v vs) (hu : NewV B' E' w u us) (hne : E' ≠ E) : ∀ g, u.ownBlock = some g → some g ≠ v.ownBlock := by
  intro g hg e
  rcases h with ⟨rfl, _⟩ | ⟨g', cp, cs, rfl, hbg, hh, _⟩
  · simp [Value.ownBlock] at e
  · rcases hu with ⟨rfl, _⟩ | ⟨g2, cap2, cs2, rfl, hb2, hh2, _⟩
    · simp [Value.ownBlock] at hg
    · simp only [Value.ownBlock, Option.some.injEq] at hg e
      subst hg
      subst e
      rw [hh] at hh2
      simp only [Option.some.injEq, Obj.cells.injEq] at hh2
      exact hne hh2.2.1.symm
theorem NewV.keptV {B B' : Nat} {E E' : TypeId} {w w' : World} {v u : Value} {vs us : List Value} (hu : NewV B' E' w u us) (h : NewV B E w v vs) (hne : E' ≠ E) (hg : w.grownBy w' v.ownBlock) : NewV B' E' w' u us :=
  hu.kept hg (by
    cases hq : u.ownBlock with
    | none => exact .inl rfl
    | some g => exact .inr (h.asideV hu hne g hq))
theorem NewV.aside_rw {B g : Nat} {E E' : TypeId} {w : World} {v : Value} {vs us : List Value} (h : NewV B E w v vs) (hu : Rw w g E' us) (hne : E' ≠ E) : some g ≠ v.ownBlock := by
  intro e
  rcases h with ⟨rfl, _⟩ | ⟨g', cp, cs, rfl, hbg, hh, _⟩
  · simp [Value.ownBlock] at e
  · simp only [Value.ownBlock, Option.some.injEq] at e
    subst e
    have h2 : w.heap[g]? = _ := hu
    rw [hh] at h2
    simp only [Option.some.injEq, Obj.cells.injEq] at h2
    exact hne h2.2.1.symm
theorem FamV.pastV {B B' n : Nat} {k : IntKind} {E F T : TypeId} {w w' : World} {V : Nat → Value} {A : Nat → List Int} {v : Value} {vs : List Value} (h : FamV B k E F w n V A) (hv : NewV B' T w v vs) (hne : E ≠ T ∧ F ≠ T) (hg : w.grownBy w' v.ownBlock) : FamV B k E F w' n V A :=
  h.grown hg fun i hi g e => hv.aside' (h.new i hi) hne g e
theorem Lists.pastV {B B' n : Nat} {k : IntKind} {E F T T' : TypeId} {w w' : World} {l : Value} {V : Nat → Value} {A : Nat → List Int} {v : Value} {vs : List Value} (h : Lists B k E F T w l n V A) (hv : NewV B' T' w v vs) (hne : E ≠ T' ∧ F ≠ T') (hT : T ≠ T') (hg : w.grownBy w' v.ownBlock) : Lists B k E F T w' l n V A :=
  ⟨h.row.keptV hv hT hg, h.fam.pastV hv hne hg⟩
end Go.Sg
namespace Go.Proofs.YtlolkighnnedfaaDoor
open Go.RowKit Go.Sg
/-- Two lists of the call's own, apart, that say X and Y. -/
def TwoL (B : Nat) (w : World) (vx vy : Value) (zx zy : List Int) (X Y : Nat) : Prop := NewA B .u32 36 95 w vx zx ∧ NewA B .u32 36 95 w vy zy ∧ NumL zx X ∧ NumL zy Y ∧ ∀ g, vx.ownBlock = some g → vy.ownBlock ≠ some g
def PtAny (X Y : Nat) (W : World) (e : Ending) (w' : World) : Prop := ∃ (ax ay : Option Addr) (px py : Nat) (zx zy : List Int) (c : Int), e = .returned (.tuple #[.agg #[.slice ax zx.length px, .slice ay zy.length py, .bool false], .int .i64 c]) ∧ TwoL W.heap.size w' (.slice ax zx.length px) (.slice ay zy.length py) zx zy X Y ∧ Below W.heap.size W w'
theorem PtOk.any {Q : Pt} {W : World} {e : Ending} {w' : World} (h : PtOk Q W e w') : PtAny Q.1.val Q.2.val W e w' := by
  obtain ⟨v, rfl, hr, hb⟩ := h
  obtain ⟨vx, vy, zx, zy, rfl, n1, n2, m1, m2, ha⟩ := ptres_two (F := 95) hr
  obtain ⟨ax, px, rfl, _⟩ := n1.sl
  obtain ⟨ay, py, rfl, _⟩ := n2.sl
  exact ⟨ax, ay, px, py, zx, zy, 0, rfl, ⟨n1, n2, m1, m2, ha⟩, hb⟩
def q0 (r : Option Pt) : Nat := match r with | some P => P.1.val | none => 0
def q1 (r : Option Pt) : Nat := match r with | some P => P.2.val | none => 0
theorem DecPost.any {r : Option Pt} {W : World} {e : Ending} {w' : World} (h : DecPost r W e w') : PtAny (q0 r) (q1 r) W e w' := by
  cases r with
  | some P => exact PtOk.any h
  | none =>
    obtain ⟨rfl, hb⟩ := h
    exact ⟨none, none, 0, 0, [], [], 93, rfl, ⟨(New.nil _ _ _ _).mix, (New.nil _ _ _ _).mix, .nil, .nil, fun g hg => by simp [Value.ownBlock] at hg⟩, hb⟩
theorem numL_of8 {L : List Int} {n : Nat} (l : Limb8 L n) : NumL L n := ⟨l.can, l.u, l.val, by rw [l.len]; exact Nat.le_refl _⟩
theorem BaseRes.two {B : Nat} {w : World} {v : Value} (h : BaseRes B w v) : ∃ gx gy, v = .agg #[.slice (some ⟨gx, 0, none⟩) 8 8, .slice (some ⟨gy, 0, none⟩) 8 8, .bool false] ∧ TwoL B w (.slice (some ⟨gx, 0, none⟩) 8 8) (.slice (some ⟨gy, 0, none⟩) 8 8) limbX limbY eB.1.val eB.2.val := by
  obtain ⟨gx, gy, rfl, h1, h2, h3, h4, h5⟩ := h
  exact ⟨gx, gy, rfl, .of_rw h4 h1 rfl (by omega), .of_rw h5 h2 rfl (by omega), numL_of8 lim8_X, numL_of8 lim8_Y, fun g hg e => by
    simp only [Value.ownBlock, Option.some.injEq] at hg e
    exact h3 (hg.trans e.symm)⟩
theorem NewA.can {B : Nat} {F : TypeId} {w : World} {v : Value} {zs : List Int} {n : Nat} (h : NewA B .u32 36 F w v zs) (m : NumL zs n) : CanAt w v n := by
  obtain ⟨a, c, rfl, s⟩ := h.sl
  exact ⟨a, c, zs, rfl, s, m.1, m.2.1, m.2.2.1, by have := m.2.2.2; omega⟩
/-- The numbers of one round, by their places. -/
def qOf (r : Option Pt) (PA PB PC : Pt) (j : Nat) : Nat := match j with
  | 0 => q0 r | 1 => q1 r | 2 => eB.1.val | 3 => eB.2.val | 4 => PA.1.val | 5 => PA.2.val
  | 6 => PB.1.val | 7 => PB.2.val | 8 => PC.1.val | 9 => PC.2.val | _ => eL
/-- Two more lists in the family. -/
theorem FamV.two {B n : Nat} {w w' : World} {V : Nat → Value} {A : Nat → List Int} {vx vy : Value} {zx zy : List Int} {X Y : Nat} (h : FamV B .u32 36 95 w n V A) (hB : B ≤ w.heap.size) (t : TwoL w.heap.size w' vx vy zx zy X Y) (hb : Below w.heap.size w w') :
    ∃ V' A', FamV B .u32 36 95 w' (n + 2) V' A' ∧ (List.range (n + 2)).map V' = (List.range n).map V ++ [vx, vy] ∧ (∀ j, j < n → A' j = A j) ∧ NumL (A' n) X ∧ NumL (A' (n + 1)) Y := by
  obtain ⟨n1, n2, m1, m2, ha⟩ := t
  obtain ⟨V', A', f, r, a, e1, e2⟩ := h.push2 (n1.mono hB) (n2.mono hB) hb (fun g hg => (n1.lt g hg).1) (fun g hg => (n2.lt g hg).1) ha
  exact ⟨V', A', f, r, a, by rw [e1]; exact m1, by rw [e2]; exact m2⟩
def EncAny (C : List Int) (W : World) (e : Ending) (w' : World) : Prop := ∃ (a : Option Addr) (c : Nat), e = .returned (.tuple #[.slice a 32 c, .int .i64 0]) ∧ New W.heap.size .u8 5 w' (.slice a 32 c) C ∧ Below W.heap.size W w'
theorem enc_any {C : List Int} {Q : Pt} {va : Value} {w : World} (hC : C = encB Q) (ha : PtIn w va Q.1.val Q.2.val false) (oQ : OnC Q) (tP : TabAt w 0 limbP) (tD : TabAt w 3 limbD) :
    Calls Tryd.prog 17 #[va] w (EncAny C w) := by
  subst hC
  refine (enc_ok ha oQ tP tD).mono ?_
  rintro e w' ⟨v, rfl, hn, hb⟩
  obtain ⟨a, c, rfl, _⟩ := hn.sl
  have hl := encB_len Q
  refine ⟨a, c, by rw [hl], ?_, hb⟩
  rwa [hl] at hn
theorem infoN13 : (Tryd.prog.info? 27).map (fun i => (i.zero, i.size, i.bytes)) = some (some (.slice none 0 0), 1, 24) := by kernel_rfl
theorem one_fp : (1 : Fp).val = 1 := by decide +kernel
end Go.Proofs.YtlolkighnnedfaaDoor
