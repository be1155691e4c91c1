import Derived.Test.YtlolkighnnedfaaDoorZ36
import Derived.Lib.SmallJoins
import Derived.Test.YtlolkighnnedfaaDoorZEdBackL
/- EdBack: the law's row and its card, where what comes in is of bulk at most 2^20, out of its walk. -/
set_option linter.unusedVariables false
set_option linter.unusedSimpArgs false
namespace Go.Proofs.YtlolkighnnedfaaDoor.edBackUpto
open Go.ChangeShapes Go.WideShapes Go.ChangeAt Go.RowKit Go.Sg Go.Joins Go.Deep

theorem walk (a0 : Option Addr) (c0 : Nat) (x0 : List Int) (a1x : Option Addr) (c1x : Nat) (x1x : List Int) (a1y : Option Addr) (c1y : Nat) (x1y : List Int) (i1 : Bool) (w : World) (s0 : Sl .u8 w a0 c0 x0) (u0 : U8 x0) (s1x : Sl .u32 w a1x c1x x1x) (u1x : U32 x1x) (s1y : Sl .u32 w a1y c1y x1y) (u1y : U32 x1y) (hz : x0.length + x1x.length + x1y.length ≤ 1048576) (tP : TabAt w 0 limbP) (tD : TabAt w 3 limbD) (tI : TabAt w 4 limbI) (tL : TabAt w 2 limbL) (tB : BaseT w 1) (ht : ShaTabs w) :
    Calls Tryd.prog 8 #[.slice a0 x0.length c0, .agg #[.slice a1x x1x.length c1x, .slice a1y x1y.length c1y, .bool i1]] w (TruePost w) :=
  EdBack_c s0 s1x s1y u0 u1x u1y (by omega) tP tD tI tL tB ht

theorem laid_met (os : Os) : laidMet Tryd.prog Rows.edBackUptoRow.laid ((laidWorldE os).forCall (fun _ _ => 0) ⟨#[], #[.slice none 0 0, .agg #[.slice none 0 0, .slice none 0 0, .bool false]], []⟩).memory :=
  laidMet_of_run' 8 (by kernel_rfl) (by kernel_rfl)
theorem reads (os : Os) {H : Type} (enc : TypeId × Value → H) : ∃ places, DataW.whole enc Tryd.prog ((laidWorldE os).forCall (fun _ _ => 0) ⟨#[], #[.slice none 0 0, .agg #[.slice none 0 0, .slice none 0 0, .bool false]], []⟩).memory Tryd.f8.params.toList Rows.edBackSpec.vars false (#[.slice none 0 0, .agg #[.slice none 0 0, .slice none 0 0, .bool false]] : Array Value).toList 8 = some ([.nil, .agg [.nil, .nil, .lit (.bool false)]], [], places) :=
  ⟨[], by kernel_rfl⟩

set_option maxRecDepth 100000 in
theorem lifted (os : Os) (started : os.Started) (H : Type) (enc : TypeId × Value → H) (F : Stop.Interp) :
    ReturnsInHanded {} Tryd.checked os 8 .any ((Rows.OpenSpec.upto Rows.edBackSpec).preRow enc Tryd.prog Tryd.f8 Rows.edBackUptoRow.domain false Rows.edBackUptoRow.laid) (((Rows.OpenSpec.upto Rows.edBackSpec).at F).post enc Tryd.prog Tryd.f8 false true false false) := by
  obtain ⟨places, hx⟩ := reads os enc
  refine returnsInHanded_of_row (C := Tryd.checked) (s := Rows.OpenSpec.upto Rows.edBackSpec) own_knob started (by kernel_rfl) Tryd.func8
    (witness_row_at (enc := enc) (C := Tryd.checked) false (laidWorldE os) #[.slice none 0 0, .agg #[.slice none 0 0, .slice none 0 0, .bool false]] rfl (by kernel_rfl) (by kernel_rfl) (by kernel_rfl)
      (OpenSpec.preRow_of_cond 8 hx (by kernel_rfl) (fun k hk => by cases hk; kernel_rfl) (by kernel_rfl) (laid_met os))) ?_
  intro W base args ds gs before hval0 hW _ hk _ hL _ _
  have hk0 := hk _ rfl
  have hval : ∀ (j : Nat) t v, Tryd.f8.params[j]? = some t → args[j]? = some v → Value.okWide Tryd.prog W .any base t v := hval0
  have hW' := hW
  obtain ⟨p, q, hA0, hV, rfl, hfz, hnd⟩ := hW
  have hA : DataW.TrodAll enc Tryd.prog W 0 (fun _ => true) true Tryd.f8.params.toList args.toList ds p := hA0
  have hbk := bulk_all hk0
  rw [Tryd.params8] at hA hval
  obtain ⟨v0, vs0, d0, ds0, p0, q0, hargs, rfl, rfl, h0, r0⟩ := trodAll_cons hA
  obtain ⟨v1, vs1, d1, ds1, p1, q1, rfl, rfl, rfl, h1, r1⟩ := trodAll_cons r0
  obtain ⟨rfl, rfl, rfl⟩ := trodAll_nil r1
  obtain rfl : args = #[v0, v1] := by cases args; simp_all
  obtain ⟨rfl, rfl⟩ := trodVars_none hV
  simp only [List.append_nil, Rows.uptoBulkAll] at hbk
  obtain ⟨a0, len0, cap0, rfl⟩ := okWide_slice Tryd.underlying22 (hval 0 22 v0 rfl rfl)
  have k0 := h0
  have lt0 : ∀ x ∈ p0, x.block < W.heap.size := by obtain ⟨m, hm⟩ := k0; exact DataW.trod_lt m _ _ _ hm
  obtain ⟨z0, w0, l0⟩ : ∃ zs, IsRow .u8 W a0 len0 cap0 zs ∧ len0 + 1 ≤ Rows.uptoBulk d0 := by
    obtain ⟨fuel, hf⟩ := h0
    rcases open_ints Tryd.underlying22 Tryd.underlying5 (by kernel_rfl) hf with ⟨hcs, hx⟩ | ⟨x, l, c, zs, hcs, _, hl, hm, hz, hx, hcell, hwz⟩
    · simp [Value.cells] at hcs
      obtain ⟨rfl, rfl, rfl⟩ := hcs
      exact ⟨[], .inl ⟨rfl, rfl, rfl, rfl⟩, by have := bulk_one d0; omega⟩
    · simp [Value.cells] at hcs
      obtain ⟨rfl, rfl, rfl⟩ := hcs
      simp only [Prod.mk.injEq] at hx
      refine ⟨zs, .inr ⟨_, rfl, hl, hm, by simpa using hz, hcell, hwz⟩, ?_⟩
      have hd : d0 = _ := hx.1
      rw [hd]
      refine Nat.le_trans ?_ (bulk_slice _ _)
      simp only [lits, List.length_map, List.length_take, List.length_drop]
      simp at hz
      omega
  have k1 := h1
  have lt1 : ∀ x ∈ p1, x.block < W.heap.size := by obtain ⟨m, hm⟩ := k1; exact DataW.trod_lt m _ _ _ hm
  obtain ⟨v1x, v1y, v1i, y1x, y1y, y1i, m1, rfl, hd1, hp1, f1x, f1y, f1i⟩ := open_agg3 Tryd.underlying29 (by kernel_rfl) (by kernel_rfl) (hval 1 29 v1 rfl rfl) h1
  obtain ⟨a1x, len1x, cap1x, z1x, rfl, w1x, l1x⟩ : ∃ a len cap zs, v1x = .slice a len cap ∧ IsRow .u32 W a len cap zs ∧ len + 1 ≤ Rows.uptoBulk y1x.1 := by
    rcases open_ints Tryd.underlying27 Tryd.underlying36 (by kernel_rfl) f1x with ⟨hcs, hx⟩ | ⟨x, l, c, zs, hcs, _, hl, hm, hz, hx, hcell, hwz⟩
    · simp at hcs
      exact ⟨none, 0, 0, [], hcs, .inl ⟨rfl, rfl, rfl, rfl⟩, by have := bulk_one y1x.1; omega⟩
    · simp at hcs
      refine ⟨some x, l, c, zs, hcs, .inr ⟨_, rfl, hl, hm, by simpa using hz, hcell, hwz⟩, ?_⟩
      have hd : y1x.1 = _ := congrArg Prod.fst hx
      rw [hd]
      refine Nat.le_trans ?_ (bulk_slice _ _)
      simp only [lits, List.length_map, List.length_take, List.length_drop]
      simp at hz
      omega
  obtain ⟨a1y, len1y, cap1y, z1y, rfl, w1y, l1y⟩ : ∃ a len cap zs, v1y = .slice a len cap ∧ IsRow .u32 W a len cap zs ∧ len + 1 ≤ Rows.uptoBulk y1y.1 := by
    rcases open_ints Tryd.underlying27 Tryd.underlying36 (by kernel_rfl) f1y with ⟨hcs, hx⟩ | ⟨x, l, c, zs, hcs, _, hl, hm, hz, hx, hcell, hwz⟩
    · simp at hcs
      exact ⟨none, 0, 0, [], hcs, .inl ⟨rfl, rfl, rfl, rfl⟩, by have := bulk_one y1y.1; omega⟩
    · simp at hcs
      refine ⟨some x, l, c, zs, hcs, .inr ⟨_, rfl, hl, hm, by simpa using hz, hcell, hwz⟩, ?_⟩
      have hd : y1y.1 = _ := congrArg Prod.fst hx
      rw [hd]
      refine Nat.le_trans ?_ (bulk_slice _ _)
      simp only [lits, List.length_map, List.length_take, List.length_drop]
      simp at hz
      omega
  obtain ⟨i1, ei1, hxi1⟩ := DataW.trod_bool Tryd.underlying4 f1i
  obtain rfl : v1i = .bool i1 := by simpa using ei1
  have bk1 : len1x + len1y ≤ Rows.uptoBulk d1 := by
    rw [hd1]
    simp only [Rows.uptoBulk, Rows.uptoBulkAll]
    omega
  clear hA0 hval0
  have e0 := w0.len
  have e1x := w1x.len
  have e1y := w1y.len
  obtain ⟨x0, hx0⟩ : ∃ x, x = z0.take len0 := ⟨_, rfl⟩
  have s0 := w0.sl
  have u0 := w0.u8
  rw [← hx0] at e0 s0 u0
  obtain ⟨x1x, hx1x⟩ : ∃ x, x = z1x.take len1x := ⟨_, rfl⟩
  have s1x := w1x.sl
  have u1x := w1x.u32
  rw [← hx1x] at e1x s1x u1x
  obtain ⟨x1y, hx1y⟩ : ∃ x, x = z1y.take len1y := ⟨_, rfl⟩
  have s1y := w1y.sl
  have u1y := w1y.u32
  rw [← hx1y] at e1y s1y u1y
  have hz : x0.length + x1x.length + x1y.length ≤ 1048576 := by
    rw [e0, e1x, e1y]
    first | omega | (simp only [Rows.uptoBulk] at hbk; omega)
  have tP := tab_ed (g := 0) (name := "signet/ed.primeLimbs") hL limbP rfl (by kernel_rfl) (by kernel_rfl) (by kernel_rfl)
  have tD := tab_ed (g := 3) (name := "signet/ed.curveLimbs") hL limbD rfl (by kernel_rfl) (by kernel_rfl) (by kernel_rfl)
  have tI := tab_ed (g := 4) (name := "signet/ed.rootLimbs") hL limbI rfl (by kernel_rfl) (by kernel_rfl) (by kernel_rfl)
  have tL := tab_ed (g := 2) (name := "signet/ed.orderLimbs") hL limbL rfl (by kernel_rfl) (by kernel_rfl) (by kernel_rfl)
  have tB := base_of hL (by kernel_rfl)
  have ht := tabs_sha hL (by kernel_rfl) (by kernel_rfl) (by kernel_rfl) (by kernel_rfl) (by kernel_rfl)
  have wk := walk a0 cap0 x0 a1x cap1x x1x a1y cap1y x1y i1 W s0 u0 s1x u1x s1y u1y hz tP tD tI tL tB ht
  rw [e0, e1x, e1y] at wk
  refine wk.mono fun e W' ⟨he, bel⟩ => ?_
  subst he
  exact ⟨_, rfl, _, _, _, [], _, [], hW', trodAll_mk1 (shut_bool Tryd.underlying4 _), (trodAll_cons_mk (Below.trod laid_out (by kernel_rfl) (of_decide_eq_true (by kernel_rfl)) k0 bel lt0) (trodAll_cons_mk (Below.trod laid_out (by kernel_rfl) (of_decide_eq_true (by kernel_rfl)) k1 bel lt1) trodAll_mk0)), rfl, bel.frame _, fun h => by cases h⟩

theorem said : Rows.EdBackUptoSaid :=
  OpenClaim.holds_of_cond 8 Tryd.f8 rfl rfl rfl rfl rfl rfl rfl ⟨rfl, rfl, rfl, rfl, rfl⟩ rfl rfl rfl rfl rfl (by kernel_rfl) Tryd.func8 (by kernel_rfl)
    (of_decide_eq_true (by kernel_rfl)) (by unfold Func.isWrapper; first | (rw [if_pos (by decide +kernel)]; kernel_rfl) | (rw [if_neg (by decide +kernel)]; exact ⟨rfl, rfl⟩))
    (fun os started H enc _ F => by rw [OpenClaim.pre_eq_preRow]; exact lifted os started H enc F)
theorem plain (f : FuncId) (fn : Func) (hf : Tryd.pinned.checked.prog.funcNamed "signet/signetlaw13.EdBack" = some f) (hfn : Tryd.pinned.checked.prog.funcs[f]? = some fn) :
    false = Tryd.pinned.checked.prog.looks [] ∧ ∀ (j : Nat) t, fn.params[j]? = some t → Tryd.pinned.checked.prog.wantsStandIn t = false := by
  obtain rfl : f = 8 := Option.some.inj ((show Tryd.prog.funcNamed "signet/signetlaw13.EdBack" = some 8 by kernel_rfl).symm.trans hf) |>.symm
  obtain rfl : fn = Tryd.f8 := (Option.some.inj (Tryd.func8.symm.trans hfn)).symm
  refine ⟨by kernel_rfl, fun j t ht => ?_⟩
  rw [Tryd.params8] at ht
  have hlt : j < 2 := by obtain ⟨h, _⟩ := Array.getElem?_eq_some_iff.1 ht; simpa using h
  rcases (show j = 0 ∨ j = 1 by omega) with rfl | rfl
  · have e : 22 = t := Option.some.inj ht
    subst e
    exact (show Tryd.prog.wantsStandIn 22 = false by kernel_rfl)
  · have e : 29 = t := Option.some.inj ht
    subst e
    exact (show Tryd.prog.wantsStandIn 29 = false by kernel_rfl)
theorem card : Rows.EdBackUptoCardSaid :=
  Claim7.holds_tied_plain_at .later [] _ _ _ _ said (fun _ h => by cases h) (by kernel_rfl) (fun _ h => by cases h) edBackUpto_row_tie rfl ⟨rfl, rfl⟩ (by kernel_rfl) rfl plain (by kernel_rfl)
#print axioms card
end Go.Proofs.YtlolkighnnedfaaDoor.edBackUpto
