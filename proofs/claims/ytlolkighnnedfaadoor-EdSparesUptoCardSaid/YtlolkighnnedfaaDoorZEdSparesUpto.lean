import Derived.Test.YtlolkighnnedfaaDoorZ29
import Derived.Lib.SmallJoins
import Derived.Test.YtlolkighnnedfaaDoorZEdSparesL
/- EdSpares: the law's row and its card, where what comes in is of bulk at most 2^20, out of its walk. -/
set_option linter.unusedVariables false
set_option linter.unusedSimpArgs false
namespace Go.Proofs.YtlolkighnnedfaaDoor.edSparesUpto
open Go.ChangeShapes Go.WideShapes Go.ChangeAt Go.RowKit Go.Sg Go.Joins Go.Deep

theorem walk (a0 : Option Addr) (c0 : Nat) (x0 : List Int) (w : World) (s0 : Sl .u8 w a0 c0 x0) (u0 : U8 x0) (hz : x0.length ≤ 1048576) (tP : TabAt w 0 limbP) (tD : TabAt w 3 limbD) (tI : TabAt w 4 limbI) (tL : TabAt w 2 limbL) (tB : BaseT w 1) (ht : ShaTabs w) :
    Calls Tryd.prog 3 #[.slice a0 x0.length c0] w (TruePost w) :=
  EdSpares_c s0 u0 hz tP tD tI tL tB ht

theorem laid_met (os : Os) : laidMet Tryd.prog Rows.edSparesUptoRow.laid ((laidWorldE os).forCall (fun _ _ => 0) ⟨#[], #[.slice none 0 0], []⟩).memory :=
  laidMet_of_run' 8 (by kernel_rfl) (by kernel_rfl)
theorem reads (os : Os) {H : Type} (enc : TypeId × Value → H) : ∃ places, DataW.whole enc Tryd.prog ((laidWorldE os).forCall (fun _ _ => 0) ⟨#[], #[.slice none 0 0], []⟩).memory Tryd.f3.params.toList Rows.edSparesSpec.vars false (#[.slice none 0 0] : Array Value).toList 8 = some ([.nil], [], places) :=
  ⟨[], by kernel_rfl⟩

set_option maxRecDepth 100000 in
theorem lifted (os : Os) (started : os.Started) (H : Type) (enc : TypeId × Value → H) (F : Stop.Interp) :
    ReturnsInHanded {} Tryd.checked os 3 .any ((Rows.OpenSpec.upto Rows.edSparesSpec).preRow enc Tryd.prog Tryd.f3 Rows.edSparesUptoRow.domain false Rows.edSparesUptoRow.laid) (((Rows.OpenSpec.upto Rows.edSparesSpec).at F).post enc Tryd.prog Tryd.f3 false true false false) := by
  obtain ⟨places, hx⟩ := reads os enc
  refine returnsInHanded_of_row (C := Tryd.checked) (s := Rows.OpenSpec.upto Rows.edSparesSpec) own_knob started (by kernel_rfl) Tryd.func3
    (witness_row_at (enc := enc) (C := Tryd.checked) false (laidWorldE os) #[.slice none 0 0] rfl (by kernel_rfl) (by kernel_rfl) (by kernel_rfl)
      (OpenSpec.preRow_of_cond 8 hx (by kernel_rfl) (fun k hk => by cases hk; kernel_rfl) (by kernel_rfl) (laid_met os))) ?_
  intro W base args ds gs before hval0 hW _ hk _ hL _ _
  have hk0 := hk _ rfl
  have hval : ∀ (j : Nat) t v, Tryd.f3.params[j]? = some t → args[j]? = some v → Value.okWide Tryd.prog W .any base t v := hval0
  have hW' := hW
  obtain ⟨p, q, hA0, hV, rfl, hfz, hnd⟩ := hW
  have hA : DataW.TrodAll enc Tryd.prog W 0 (fun _ => true) true Tryd.f3.params.toList args.toList ds p := hA0
  have hbk := bulk_all hk0
  rw [Tryd.params3] at hA hval
  obtain ⟨v0, vs0, d0, ds0, p0, q0, hargs, rfl, rfl, h0, r0⟩ := trodAll_cons hA
  obtain ⟨rfl, rfl, rfl⟩ := trodAll_nil r0
  obtain rfl : args = #[v0] := by cases args; simp_all
  obtain ⟨rfl, rfl⟩ := trodVars_none hV
  simp only [List.append_nil, Rows.uptoBulkAll] at hbk
  obtain ⟨a0, len0, cap0, rfl⟩ := okWide_slice Tryd.underlying22 (hval 0 22 v0 rfl rfl)
  have k0 := h0
  have lt0 : ∀ x ∈ p0, x.block < W.heap.size := by obtain ⟨m, hm⟩ := k0; exact DataW.trod_lt m _ _ _ hm
  obtain ⟨z0, w0, l0⟩ : ∃ zs, IsRow .u8 W a0 len0 cap0 zs ∧ len0 + 1 ≤ Rows.uptoBulk d0 := by
    obtain ⟨fuel, hf⟩ := h0
    rcases open_ints Tryd.underlying22 Tryd.underlying5 (by kernel_rfl) hf with ⟨hcs, hx⟩ | ⟨x, l, c, zs, hcs, _, hl, hm, hz, hx, hcell, hwz⟩
    · simp [Value.cells] at hcs
      obtain ⟨rfl, rfl, rfl⟩ := hcs
      exact ⟨[], .inl ⟨rfl, rfl, rfl, rfl⟩, by have := bulk_one d0; omega⟩
    · simp [Value.cells] at hcs
      obtain ⟨rfl, rfl, rfl⟩ := hcs
      simp only [Prod.mk.injEq] at hx
      refine ⟨zs, .inr ⟨_, rfl, hl, hm, by simpa using hz, hcell, hwz⟩, ?_⟩
      have hd : d0 = _ := hx.1
      rw [hd]
      refine Nat.le_trans ?_ (bulk_slice _ _)
      simp only [lits, List.length_map, List.length_take, List.length_drop]
      simp at hz
      omega
  clear hA0 hval0
  have e0 := w0.len
  obtain ⟨x0, hx0⟩ : ∃ x, x = z0.take len0 := ⟨_, rfl⟩
  have s0 := w0.sl
  have u0 := w0.u8
  rw [← hx0] at e0 s0 u0
  have hz : x0.length ≤ 1048576 := by
    rw [e0]
    first | omega | (simp only [Rows.uptoBulk] at hbk; omega)
  have tP := tab_ed (g := 0) (name := "signet/ed.primeLimbs") hL limbP rfl (by kernel_rfl) (by kernel_rfl) (by kernel_rfl)
  have tD := tab_ed (g := 3) (name := "signet/ed.curveLimbs") hL limbD rfl (by kernel_rfl) (by kernel_rfl) (by kernel_rfl)
  have tI := tab_ed (g := 4) (name := "signet/ed.rootLimbs") hL limbI rfl (by kernel_rfl) (by kernel_rfl) (by kernel_rfl)
  have tL := tab_ed (g := 2) (name := "signet/ed.orderLimbs") hL limbL rfl (by kernel_rfl) (by kernel_rfl) (by kernel_rfl)
  have tB := base_of hL (by kernel_rfl)
  have ht := tabs_sha hL (by kernel_rfl) (by kernel_rfl) (by kernel_rfl) (by kernel_rfl) (by kernel_rfl)
  have wk := walk a0 cap0 x0 W s0 u0 hz tP tD tI tL tB ht
  rw [e0] at wk
  refine wk.mono fun e W' ⟨he, bel⟩ => ?_
  subst he
  exact ⟨_, rfl, _, _, _, [], _, [], hW', trodAll_mk1 (shut_bool Tryd.underlying4 _), (trodAll_cons_mk (Below.trod laid_out (by kernel_rfl) (of_decide_eq_true (by kernel_rfl)) k0 bel lt0) trodAll_mk0), rfl, bel.frame _, fun h => by cases h⟩

theorem said : Rows.EdSparesUptoSaid :=
  OpenClaim.holds_of_cond 3 Tryd.f3 rfl rfl rfl rfl rfl rfl rfl ⟨rfl, rfl, rfl, rfl, rfl⟩ rfl rfl rfl rfl rfl (by kernel_rfl) Tryd.func3 (by kernel_rfl)
    (of_decide_eq_true (by kernel_rfl)) (by unfold Func.isWrapper; first | (rw [if_pos (by decide +kernel)]; kernel_rfl) | (rw [if_neg (by decide +kernel)]; exact ⟨rfl, rfl⟩))
    (fun os started H enc _ F => by rw [OpenClaim.pre_eq_preRow]; exact lifted os started H enc F)
theorem plain (f : FuncId) (fn : Func) (hf : Tryd.pinned.checked.prog.funcNamed "signet/signetlaw13.EdSpares" = some f) (hfn : Tryd.pinned.checked.prog.funcs[f]? = some fn) :
    false = Tryd.pinned.checked.prog.looks [] ∧ ∀ (j : Nat) t, fn.params[j]? = some t → Tryd.pinned.checked.prog.wantsStandIn t = false := by
  obtain rfl : f = 3 := Option.some.inj ((show Tryd.prog.funcNamed "signet/signetlaw13.EdSpares" = some 3 by kernel_rfl).symm.trans hf) |>.symm
  obtain rfl : fn = Tryd.f3 := (Option.some.inj (Tryd.func3.symm.trans hfn)).symm
  refine ⟨by kernel_rfl, fun j t ht => ?_⟩
  rw [Tryd.params3] at ht
  have hlt : j < 1 := by obtain ⟨h, _⟩ := Array.getElem?_eq_some_iff.1 ht; simpa using h
  rcases (show j = 0 by omega) with rfl
  · have e : 22 = t := Option.some.inj ht
    subst e
    exact (show Tryd.prog.wantsStandIn 22 = false by kernel_rfl)
theorem card : Rows.EdSparesUptoCardSaid :=
  Claim7.holds_tied_plain_at .later [] _ _ _ _ said (fun _ h => by cases h) (by kernel_rfl) (fun _ h => by cases h) edSparesUpto_row_tie rfl ⟨rfl, rfl⟩ (by kernel_rfl) rfl plain (by kernel_rfl)
#print axioms card
end Go.Proofs.YtlolkighnnedfaaDoor.edSparesUpto
