import Derived.Test.YtlolkighnnedfaaGreatDoorZ39
import Derived.Lib.SmallJoins
import Derived.Test.YtlolkighnnedfaaGreatDoorZEdVerifiesL
/- EdVerifies: the law's row and its card, where what comes in is of bulk at most 2^20, out of its walk. -/
set_option linter.unusedVariables false
set_option linter.unusedSimpArgs false
namespace Go.Proofs.YtlolkighnnedfaaGreatDoor.edVerifiesUpto
open Go.ChangeShapes Go.WideShapes Go.ChangeAt Go.RowKit Go.Sg Go.Joins Go.Deep

theorem walk (a0 : Option Addr) (c0 : Nat) (x0 : List Int) (a1 : Option Addr) (c1 : Nat) (x1 : List Int) (a2 : Option Addr) (c2 : Nat) (x2 : List Int) (w : World) (s0 : Sl .u8 w a0 c0 x0) (u0 : U8 x0) (s1 : Sl .u8 w a1 c1 x1) (u1 : U8 x1) (s2 : Sl .u8 w a2 c2 x2) (u2 : U8 x2) (hz : x0.length + x1.length + x2.length ≤ 1048576) (tP : TabAt w 4 limbP) (tD : TabAt w 8 limbD) (tI : TabAt w 12 limbI) (tL : TabAt w 0 limbL) (tB : BaseT w 1) (ht : ShaTabs w) (hr : RefTabs w) :
    Calls Tryz.prog 3 #[.slice a0 x0.length c0, .slice a1 x1.length c1, .slice a2 x2.length c2] w (TruePost w) :=
  EdVerifies_c s0 s1 s2 u0 u1 u2 hz tP tD tI tL tB ht hr

theorem laid_met (os : Os) : laidMet Tryz.prog Rows.edVerifiesUptoRow.laid ((laidWorldE os).forCall (fun _ _ => 0) ⟨#[], #[.slice none 0 0, .slice none 0 0, .slice none 0 0], []⟩).memory :=
  laidMet_of_run' 8 (by kernel_rfl) (by kernel_rfl)
theorem reads (os : Os) {H : Type} (enc : TypeId × Value → H) : ∃ places, DataW.whole enc Tryz.prog ((laidWorldE os).forCall (fun _ _ => 0) ⟨#[], #[.slice none 0 0, .slice none 0 0, .slice none 0 0], []⟩).memory Tryz.f3.params.toList Rows.edVerifiesSpec.vars false (#[.slice none 0 0, .slice none 0 0, .slice none 0 0] : Array Value).toList 8 = some ([.nil, .nil, .nil], [], places) :=
  ⟨[], by kernel_rfl⟩

set_option maxRecDepth 100000 in
theorem lifted (os : Os) (started : os.Started) (H : Type) (enc : TypeId × Value → H) (F : Stop.Interp) :
    ReturnsInHanded {} Tryz.checked os 3 .any ((Rows.OpenSpec.upto Rows.edVerifiesSpec).preRow enc Tryz.prog Tryz.f3 Rows.edVerifiesUptoRow.domain false Rows.edVerifiesUptoRow.laid) (((Rows.OpenSpec.upto Rows.edVerifiesSpec).at F).post enc Tryz.prog Tryz.f3 false true false false) := by
  obtain ⟨places, hx⟩ := reads os enc
  refine returnsInHanded_of_row (C := Tryz.checked) (s := Rows.OpenSpec.upto Rows.edVerifiesSpec) own_knob started (by kernel_rfl) Tryz.func3
    (witness_row_at (enc := enc) (C := Tryz.checked) false (laidWorldE os) #[.slice none 0 0, .slice none 0 0, .slice none 0 0] rfl (by kernel_rfl) (by kernel_rfl) (by kernel_rfl)
      (OpenSpec.preRow_of_cond 8 hx (by kernel_rfl) (fun k hk => by cases hk; kernel_rfl) (by kernel_rfl) (laid_met os))) ?_
  intro W base args ds gs before hval0 hW _ hk _ hL _ _
  have hk0 := hk _ rfl
  have hval : ∀ (j : Nat) t v, Tryz.f3.params[j]? = some t → args[j]? = some v → Value.okWide Tryz.prog W .any base t v := hval0
  have hW' := hW
  obtain ⟨p, q, hA0, hV, rfl, hfz, hnd⟩ := hW
  have hA : DataW.TrodAll enc Tryz.prog W 0 (fun _ => true) true Tryz.f3.params.toList args.toList ds p := hA0
  have hbk := bulk_all hk0
  rw [Tryz.params3] at hA hval
  obtain ⟨v0, vs0, d0, ds0, p0, q0, hargs, rfl, rfl, h0, r0⟩ := trodAll_cons hA
  obtain ⟨v1, vs1, d1, ds1, p1, q1, rfl, rfl, rfl, h1, r1⟩ := trodAll_cons r0
  obtain ⟨v2, vs2, d2, ds2, p2, q2, rfl, rfl, rfl, h2, r2⟩ := trodAll_cons r1
  obtain ⟨rfl, rfl, rfl⟩ := trodAll_nil r2
  obtain rfl : args = #[v0, v1, v2] := by cases args; simp_all
  obtain ⟨rfl, rfl⟩ := trodVars_none hV
  simp only [List.append_nil, Rows.uptoBulkAll] at hbk
  obtain ⟨a0, len0, cap0, rfl⟩ := okWide_slice Tryz.underlying22 (hval 0 22 v0 rfl rfl)
  have k0 := h0
  have lt0 : ∀ x ∈ p0, x.block < W.heap.size := by obtain ⟨m, hm⟩ := k0; exact DataW.trod_lt m _ _ _ hm
  obtain ⟨z0, w0, l0⟩ : ∃ zs, IsRow .u8 W a0 len0 cap0 zs ∧ len0 + 1 ≤ Rows.uptoBulk d0 := by
    obtain ⟨fuel, hf⟩ := h0
    rcases open_ints Tryz.underlying22 Tryz.underlying5 (by kernel_rfl) hf with ⟨hcs, hx⟩ | ⟨x, l, c, zs, hcs, _, hl, hm, hz, hx, hcell, hwz⟩
    · simp [Value.cells] at hcs
      obtain ⟨rfl, rfl, rfl⟩ := hcs
      exact ⟨[], .inl ⟨rfl, rfl, rfl, rfl⟩, by have := bulk_one d0; omega⟩
    · simp [Value.cells] at hcs
      obtain ⟨rfl, rfl, rfl⟩ := hcs
      simp only [Prod.mk.injEq] at hx
      refine ⟨zs, .inr ⟨_, rfl, hl, hm, by simpa using hz, hcell, hwz⟩, ?_⟩
      have hd : d0 = _ := hx.1
      rw [hd]
      refine Nat.le_trans ?_ (bulk_slice _ _)
      simp only [lits, List.length_map, List.length_take, List.length_drop]
      simp at hz
      omega
  obtain ⟨a1, len1, cap1, rfl⟩ := okWide_slice Tryz.underlying22 (hval 1 22 v1 rfl rfl)
  have k1 := h1
  have lt1 : ∀ x ∈ p1, x.block < W.heap.size := by obtain ⟨m, hm⟩ := k1; exact DataW.trod_lt m _ _ _ hm
  obtain ⟨z1, w1, l1⟩ : ∃ zs, IsRow .u8 W a1 len1 cap1 zs ∧ len1 + 1 ≤ Rows.uptoBulk d1 := by
    obtain ⟨fuel, hf⟩ := h1
    rcases open_ints Tryz.underlying22 Tryz.underlying5 (by kernel_rfl) hf with ⟨hcs, hx⟩ | ⟨x, l, c, zs, hcs, _, hl, hm, hz, hx, hcell, hwz⟩
    · simp [Value.cells] at hcs
      obtain ⟨rfl, rfl, rfl⟩ := hcs
      exact ⟨[], .inl ⟨rfl, rfl, rfl, rfl⟩, by have := bulk_one d1; omega⟩
    · simp [Value.cells] at hcs
      obtain ⟨rfl, rfl, rfl⟩ := hcs
      simp only [Prod.mk.injEq] at hx
      refine ⟨zs, .inr ⟨_, rfl, hl, hm, by simpa using hz, hcell, hwz⟩, ?_⟩
      have hd : d1 = _ := hx.1
      rw [hd]
      refine Nat.le_trans ?_ (bulk_slice _ _)
      simp only [lits, List.length_map, List.length_take, List.length_drop]
      simp at hz
      omega
  obtain ⟨a2, len2, cap2, rfl⟩ := okWide_slice Tryz.underlying22 (hval 2 22 v2 rfl rfl)
  have k2 := h2
  have lt2 : ∀ x ∈ p2, x.block < W.heap.size := by obtain ⟨m, hm⟩ := k2; exact DataW.trod_lt m _ _ _ hm
  obtain ⟨z2, w2, l2⟩ : ∃ zs, IsRow .u8 W a2 len2 cap2 zs ∧ len2 + 1 ≤ Rows.uptoBulk d2 := by
    obtain ⟨fuel, hf⟩ := h2
    rcases open_ints Tryz.underlying22 Tryz.underlying5 (by kernel_rfl) hf with ⟨hcs, hx⟩ | ⟨x, l, c, zs, hcs, _, hl, hm, hz, hx, hcell, hwz⟩
    · simp [Value.cells] at hcs
      obtain ⟨rfl, rfl, rfl⟩ := hcs
      exact ⟨[], .inl ⟨rfl, rfl, rfl, rfl⟩, by have := bulk_one d2; omega⟩
    · simp [Value.cells] at hcs
      obtain ⟨rfl, rfl, rfl⟩ := hcs
      simp only [Prod.mk.injEq] at hx
      refine ⟨zs, .inr ⟨_, rfl, hl, hm, by simpa using hz, hcell, hwz⟩, ?_⟩
      have hd : d2 = _ := hx.1
      rw [hd]
      refine Nat.le_trans ?_ (bulk_slice _ _)
      simp only [lits, List.length_map, List.length_take, List.length_drop]
      simp at hz
      omega
  clear hA0 hval0
  have e0 := w0.len
  have e1 := w1.len
  have e2 := w2.len
  obtain ⟨x0, hx0⟩ : ∃ x, x = z0.take len0 := ⟨_, rfl⟩
  have s0 := w0.sl
  have u0 := w0.u8
  rw [← hx0] at e0 s0 u0
  obtain ⟨x1, hx1⟩ : ∃ x, x = z1.take len1 := ⟨_, rfl⟩
  have s1 := w1.sl
  have u1 := w1.u8
  rw [← hx1] at e1 s1 u1
  obtain ⟨x2, hx2⟩ : ∃ x, x = z2.take len2 := ⟨_, rfl⟩
  have s2 := w2.sl
  have u2 := w2.u8
  rw [← hx2] at e2 s2 u2
  have hz : x0.length + x1.length + x2.length ≤ 1048576 := by
    rw [e0, e1, e2]
    first | omega | (simp only [Rows.uptoBulk] at hbk; omega)
  have tP := tab_ed (g := 4) (name := "signet/ed.primeLimbs") hL limbP rfl (by kernel_rfl) (by kernel_rfl) (by kernel_rfl)
  have tD := tab_ed (g := 8) (name := "signet/ed.curveLimbs") hL limbD rfl (by kernel_rfl) (by kernel_rfl) (by kernel_rfl)
  have tI := tab_ed (g := 12) (name := "signet/ed.rootLimbs") hL limbI rfl (by kernel_rfl) (by kernel_rfl) (by kernel_rfl)
  have tL := tab_ed (g := 0) (name := "signet/ed.orderLimbs") hL limbL rfl (by kernel_rfl) (by kernel_rfl) (by kernel_rfl)
  have tB := base_of hL (by kernel_rfl)
  have ht := tabs_sha hL (by kernel_rfl) (by kernel_rfl) (by kernel_rfl) (by kernel_rfl) (by kernel_rfl)
  have hr := tabs_ref hL (by kernel_rfl) (by kernel_rfl) (by kernel_rfl) (by kernel_rfl) (by kernel_rfl)
  have wk := walk a0 cap0 x0 a1 cap1 x1 a2 cap2 x2 W s0 u0 s1 u1 s2 u2 hz tP tD tI tL tB ht hr
  rw [e0, e1, e2] at wk
  refine wk.mono fun e W' ⟨he, bel⟩ => ?_
  subst he
  exact ⟨_, rfl, _, _, _, [], _, [], hW', trodAll_mk1 (shut_bool Tryz.underlying4 _), (trodAll_cons_mk (Below.trod laid_out (by kernel_rfl) (of_decide_eq_true (by kernel_rfl)) k0 bel lt0) (trodAll_cons_mk (Below.trod laid_out (by kernel_rfl) (of_decide_eq_true (by kernel_rfl)) k1 bel lt1) (trodAll_cons_mk (Below.trod laid_out (by kernel_rfl) (of_decide_eq_true (by kernel_rfl)) k2 bel lt2) trodAll_mk0))), rfl, bel.frame _, fun h => by cases h⟩

theorem said : Rows.EdVerifiesUptoSaid :=
  OpenClaim.holds_of_cond 3 Tryz.f3 rfl rfl rfl rfl rfl rfl rfl ⟨rfl, rfl, rfl, rfl, rfl⟩ rfl rfl rfl rfl rfl (by kernel_rfl) Tryz.func3 (by kernel_rfl)
    (of_decide_eq_true (by kernel_rfl)) (by unfold Func.isWrapper; first | (rw [if_pos (by decide +kernel)]; kernel_rfl) | (rw [if_neg (by decide +kernel)]; exact ⟨rfl, rfl⟩))
    (fun os started H enc _ F => by rw [OpenClaim.pre_eq_preRow]; exact lifted os started H enc F)
theorem plain (f : FuncId) (fn : Func) (hf : Tryz.pinned.checked.prog.funcNamed "signet/signetlaw13.EdVerifies" = some f) (hfn : Tryz.pinned.checked.prog.funcs[f]? = some fn) :
    false = Tryz.pinned.checked.prog.looks [] ∧ ∀ (j : Nat) t, fn.params[j]? = some t → Tryz.pinned.checked.prog.wantsStandIn t = false := by
  obtain rfl : f = 3 := Option.some.inj ((show Tryz.prog.funcNamed "signet/signetlaw13.EdVerifies" = some 3 by kernel_rfl).symm.trans hf) |>.symm
  obtain rfl : fn = Tryz.f3 := (Option.some.inj (Tryz.func3.symm.trans hfn)).symm
  refine ⟨by kernel_rfl, fun j t ht => ?_⟩
  rw [Tryz.params3] at ht
  have hlt : j < 3 := by obtain ⟨h, _⟩ := Array.getElem?_eq_some_iff.1 ht; simpa using h
  rcases (show j = 0 ∨ j = 1 ∨ j = 2 by omega) with rfl | rfl | rfl
  · have e : 22 = t := Option.some.inj ht
    subst e
    exact (show Tryz.prog.wantsStandIn 22 = false by kernel_rfl)
  · have e : 22 = t := Option.some.inj ht
    subst e
    exact (show Tryz.prog.wantsStandIn 22 = false by kernel_rfl)
  · have e : 22 = t := Option.some.inj ht
    subst e
    exact (show Tryz.prog.wantsStandIn 22 = false by kernel_rfl)
theorem card : Rows.EdVerifiesUptoCardSaid :=
  Claim7.holds_tied_plain_at .later [] _ _ _ _ said (fun _ h => by cases h) (by kernel_rfl) (fun _ h => by cases h) edVerifiesUpto_row_tie rfl ⟨rfl, rfl⟩ (by kernel_rfl) rfl plain (by kernel_rfl)
#print axioms card
end Go.Proofs.YtlolkighnnedfaaGreatDoor.edVerifiesUpto
