import Derived.Test.YtlolkighnnedfaaDoorZ20
import Derived.Great.BuildSlice
/- Points and spots in memory; what the field's numbers are behind a store. No walk. -/
set_option linter.unusedVariables false
set_option linter.unusedSimpArgs false
namespace Go.Sg
open Go.RowKit
section
variable {P : Program} {w : World} {ops : Array Oper} {rest : List Oper} {o : Oper} {a : Act} {Q : Exit → Act → World → Prop} {K : Act → World → Prop}
theorem wp_lit (t e : TypeId) (x : Operand) (ho : o.op = .buildSlice t 1 #[(0, x)])
    (ht : P.underlying t = some (.slice e)) (hi : (P.info? e).map (fun i => (i.zero, i.size, i.bytes)) = some (some (.int .u32 0), 1, 4)) (c : Int) (hx : a.eval x = .int .u32 c)
    (h : ∀ w', Rw w' w.heap.size e [.int .u32 c] → Below w.heap.size w w' → K (a.put o.dst (.slice (some ⟨w.heap.size, 0, none⟩) 1 1)) w') : o.wp P a w K Q := by
  obtain ⟨i, hi0, hz, hs, hby⟩ : ∃ i, P.info? e = some i ∧ i.zero = some (.int .u32 0) ∧ i.size = 1 ∧ i.bytes = 4 := info_parts hi
  have hf : Instr.fill (fun j => some (j * i.size, i.size)) ((Array.range (1 * i.size)).map ((Value.int .u32 0).cells[· % (Value.int .u32 0).cells.size]!)) ((#[(0, x)] : Array (Nat × Operand)).map fun (j, y) => (j, a.eval y)).toList = some ([.int .u32 c] : List Value).toArray := by
    have hr : Array.range 1 = #[0] := by decide
    simp [hs, hx, Instr.fill, Value.cells, hr]
  refine wp_buildSlice t e 1 _ ho _ i (.int .u32 0) ht hi0 hz (by rw [hs]; omega) (by rw [hs]; omega) hf ?_
  exact h _ (Rw.new _ _ _) ((Below.refl _ _).alloc (Nat.le_refl _) _)
theorem wpList_lit (hgd : o.guard = none) (t e : TypeId) (x : Operand) (ho : o.op = .buildSlice t 1 #[(0, x)])
    (ht : P.underlying t = some (.slice e)) (hi : (P.info? e).map (fun i => (i.zero, i.size, i.bytes)) = some (some (.int .u32 0), 1, 4)) (c : Int) (hx : a.eval x = .int .u32 c)
    (h : ∀ w', Rw w' w.heap.size e [.int .u32 c] → Below w.heap.size w w' → wpList P ops Q rest (a.put o.dst (.slice (some ⟨w.heap.size, 0, none⟩) 1 1)) w') : wpList P ops Q (o :: rest) a w :=
  wpList_plain hgd fun _ hK => wp_lit t e x ho ht hi c hx fun w' h2 h3 => hK _ _ (h w' h2 h3)
end
end Go.Sg
namespace Go.Proofs.YtlolkighnnedfaaDoor
open Go.RowKit Go.Sg
theorem info32e : (Tryd.prog.info? 36).map (fun i => (i.zero, i.size, i.bytes)) = some (some (.int .u32 0), 1, 4) := by kernel_rfl
section
variable {B : Nat} {w w' : World} {v v' : Value} {n m : Nat}
theorem NatRes.lit {g c : Nat} (h : Rw w g 36 [.int .u32 (c : Int)]) (hB : B ≤ g) (h0 : c ≠ 0) (hc : c < 4294967296) : NatRes B w (.slice (some ⟨g, 0, none⟩) 1 1) c := by
  have hb : Blk w g .u32 36 [(c : Int)] := h
  refine ⟨[(c : Int)], ?_, .of_last fun _ => by simp [nth]; omega, .of_mem (by omega) (by simp; omega), by simp [val_one]⟩
  have := New.of_blk hb hB 1 1 (Nat.le_refl _) (by simp) (by omega)
  simpa using this
theorem NatRes.nil0 (B : Nat) (w : World) : NatRes B w (.slice none 0 0) 0 := ⟨[], .inl ⟨rfl, rfl⟩, .nil, .nil (by omega), rfl⟩
theorem NatRes.past {g : Nat} (h : NatRes (g + 1) w v n) (hg : w.grownBy w' (some g)) : NatRes (g + 1) w' v n := by
  obtain ⟨zs, hn, r⟩ := h
  refine ⟨zs, hn.kept hg ?_, r⟩
  cases hv : v.ownBlock with
  | none => exact .inl rfl
  | some b =>
    refine .inr fun e => ?_
    have := (hn.lt b hv).1
    have := Option.some.inj e
    omega
theorem NatRes.off {g : Nat} (h : NatRes B w v n) (ho : v.ownBlock ≠ some g) (hg : w.grownBy w' (some g)) : NatRes B w' v n := by
  obtain ⟨zs, hn, r⟩ := h
  exact ⟨zs, hn.kept hg (.inr ho), r⟩
theorem NatRes.off_old (h : NatRes B w v n) : v.ownBlock ≠ some w.heap.size := by
  obtain ⟨zs, hn, _⟩ := h
  intro hb
  have := (hn.lt _ hb).2
  omega
theorem NatRes.off_new {g : Nat} (h : NatRes B w v n) (hg : g < B) : v.ownBlock ≠ some g := by
  obtain ⟨zs, hn, _⟩ := h
  intro hb
  have := (hn.lt _ hb).1
  omega
theorem NatRes.apart (h : NatRes B w v n) (h' : NatRes w.heap.size w' v' m) : ∀ b, v.ownBlock = some b → v'.ownBlock ≠ some b := by
  obtain ⟨zs, hn, _⟩ := h
  obtain ⟨zs', hn', _⟩ := h'
  intro b hb hb'
  have := (hn.lt b hb).2
  have := (hn'.lt b hb').1
  omega
theorem NatRes.fp {x : Fp} (h : NatRes B w v x.val) : CanAt w v x.val := h.can (lim_fp x) (by omega)
theorem CanAt.nil0 (w : World) : CanAt w (.slice none 0 0) (0 : Fp).val := (NatRes.nil0 0 w).fp
theorem CanAt.sliced (h : CanAt w v n) : ∃ a l c, v = .slice a l c := by
  obtain ⟨a, c, zs, rfl, _⟩ := h
  exact ⟨_, _, _, rfl⟩
theorem NumAt.sliced (h : NumAt w v n) : ∃ a l c, v = .slice a l c := by
  obtain ⟨a, c, zs, rfl, _⟩ := h
  exact ⟨_, _, _, rfl⟩
theorem NatRes.one_cell (h : NatRes B w v n) : v.oneCell' = true := by
  obtain ⟨zs, hn, _⟩ := h
  obtain ⟨a, c, rfl, _⟩ := hn.sl
  rfl
theorem CanAt.one_cell (h : CanAt w v n) : v.oneCell' = true := by
  obtain ⟨a, c, zs, rfl, _⟩ := h
  rfl
end
/-- A spot that is read. -/
def SpAt (w : World) (v : Value) (s : Sp) : Prop := ∃ vx vy vz vt, v = .agg #[vx, vy, vz, vt] ∧ CanAt w vx s.x.val ∧ CanAt w vy s.y.val ∧ CanAt w vz s.z.val ∧ CanAt w vt s.t.val
/-- A spot of the call's own. -/
def SpRes (B : Nat) (w : World) (v : Value) (s : Sp) : Prop := ∃ vx vy vz vt, v = .agg #[vx, vy, vz, vt] ∧ NatRes B w vx s.x.val ∧ NatRes B w vy s.y.val ∧ NatRes B w vz s.z.val ∧ NatRes B w vt s.t.val
/-- Where a spot stands for a point. -/
def SpPost (s : Sp) (W : World) (e : Ending) (w' : World) : Prop := ∃ v, e = .returned v ∧ SpRes W.heap.size w' v s ∧ Below W.heap.size W w'
/-- A point that came in: any numbers. -/
def PtIn (w : World) (v : Value) (X Y : Nat) (inf : Bool) : Prop := ∃ vx vy, v = .agg #[vx, vy, .bool inf] ∧ NumAt w vx X ∧ NumAt w vy Y
/-- A point that is read. -/
def PtAt (w : World) (v : Value) (P : Pt) : Prop := ∃ vx vy, v = .agg #[vx, vy, .bool false] ∧ CanAt w vx P.1.val ∧ CanAt w vy P.2.val
/-- A point of the call's own, its two numbers apart. -/
def PtRes (B : Nat) (w : World) (v : Value) (P : Pt) : Prop := ∃ vx vy, v = .agg #[vx, vy, .bool false] ∧ NatRes B w vx P.1.val ∧ NatRes B w vy P.2.val ∧ ∀ b, vx.ownBlock = some b → vy.ownBlock ≠ some b
def PtPost (P : Pt) (W : World) (e : Ending) (w' : World) : Prop := ∃ v, e = .returned v ∧ PtRes W.heap.size w' v P ∧ Below W.heap.size W w'
section
variable {B : Nat} {w w' : World} {v : Value} {s : Sp} {P : Pt} {X Y : Nat} {inf : Bool}
theorem SpAt.below (h : SpAt w v s) (hb : Below w.heap.size w w') : SpAt w' v s := by
  obtain ⟨vx, vy, vz, vt, e, h1, h2, h3, h4⟩ := h
  exact ⟨vx, vy, vz, vt, e, h1.below hb, h2.below hb, h3.below hb, h4.below hb⟩
theorem SpRes.below (h : SpRes B w v s) (hb : Below w.heap.size w w') : SpRes B w' v s := by
  obtain ⟨vx, vy, vz, vt, e, h1, h2, h3, h4⟩ := h
  exact ⟨vx, vy, vz, vt, e, h1.below hb, h2.below hb, h3.below hb, h4.below hb⟩
theorem SpRes.mono {B' : Nat} (h : SpRes B w v s) (hB : B' ≤ B) : SpRes B' w v s := by
  obtain ⟨vx, vy, vz, vt, e, h1, h2, h3, h4⟩ := h
  exact ⟨vx, vy, vz, vt, e, h1.mono hB, h2.mono hB, h3.mono hB, h4.mono hB⟩
theorem SpRes.at_ (h : SpRes B w v s) : SpAt w v s := by
  obtain ⟨vx, vy, vz, vt, e, h1, h2, h3, h4⟩ := h
  exact ⟨vx, vy, vz, vt, e, h1.fp, h2.fp, h3.fp, h4.fp⟩
theorem SpRes.past {g : Nat} (h : SpRes (g + 1) w v s) (hg : w.grownBy w' (some g)) : SpRes (g + 1) w' v s := by
  obtain ⟨vx, vy, vz, vt, e, h1, h2, h3, h4⟩ := h
  exact ⟨vx, vy, vz, vt, e, h1.past hg, h2.past hg, h3.past hg, h4.past hg⟩
theorem PtIn.below (h : PtIn w v X Y inf) (hb : Below w.heap.size w w') : PtIn w' v X Y inf := by
  obtain ⟨vx, vy, e, h1, h2⟩ := h
  exact ⟨vx, vy, e, h1.below hb, h2.below hb⟩
theorem PtAt.below (h : PtAt w v P) (hb : Below w.heap.size w w') : PtAt w' v P := by
  obtain ⟨vx, vy, e, h1, h2⟩ := h
  exact ⟨vx, vy, e, h1.below hb, h2.below hb⟩
theorem PtAt.in_ (h : PtAt w v P) : PtIn w v P.1.val P.2.val false := by
  obtain ⟨vx, vy, e, h1, h2⟩ := h
  exact ⟨vx, vy, e, h1.num, h2.num⟩
theorem PtRes.below (h : PtRes B w v P) (hb : Below w.heap.size w w') : PtRes B w' v P := by
  obtain ⟨vx, vy, e, h1, h2, h3⟩ := h
  exact ⟨vx, vy, e, h1.below hb, h2.below hb, h3⟩
theorem PtRes.mono {B' : Nat} (h : PtRes B w v P) (hB : B' ≤ B) : PtRes B' w v P := by
  obtain ⟨vx, vy, e, h1, h2, h3⟩ := h
  exact ⟨vx, vy, e, h1.mono hB, h2.mono hB, h3⟩
theorem PtRes.at_ (h : PtRes B w v P) : PtAt w v P := by
  obtain ⟨vx, vy, e, h1, h2, _⟩ := h
  exact ⟨vx, vy, e, h1.fp, h2.fp⟩
theorem PtRes.past {g : Nat} (h : PtRes (g + 1) w v P) (hg : w.grownBy w' (some g)) : PtRes (g + 1) w' v P := by
  obtain ⟨vx, vy, e, h1, h2, h3⟩ := h
  exact ⟨vx, vy, e, h1.past hg, h2.past hg, h3⟩
end
end Go.Proofs.YtlolkighnnedfaaDoor
/- package ed: the order, the curve's number, the root; add, sub, mul, power, inverse, rest, by contracts. (Printed by gen_edpo.py.) -/
set_option linter.unusedVariables false
set_option linter.unusedSimpArgs false
namespace Go.Proofs.YtlolkighnnedfaaDoor
open Go.RowKit Go.Sg
theorem order_c (w : World) (t : TabAt w 2 limbL) : Calls Tryd.prog 62 #[] w (CanPost eL w) := by
  have r := t.rng
  have lc := limbs_c lim8_L w
  go_enter Tryd.func62, Tryd.ntmps62
  go_wp2_with (refine wpList_load_mid rfl 95 _ rfl 2 0 rfl (limbL.map (Value.int .u32)) _ r Tryd.underlying95 rfl sizeA8 ?_)
  go_wp2_with fail
  refine lc.mono ?_; rintro e w1 ⟨v, rfl, hc, hb⟩
  go_wp2_with fail
  go_ret
  exact ⟨_, rfl, hc, hb⟩
theorem curve_c (w : World) (t : TabAt w 3 limbD) : Calls Tryd.prog 101 #[] w (CanPost eD.val w) := by
  have r := t.rng
  have lc := limbs_c lim8_D w
  go_enter Tryd.func101, Tryd.ntmps101
  go_wp2_with (refine wpList_load_mid rfl 95 _ rfl 3 0 rfl (limbD.map (Value.int .u32)) _ r Tryd.underlying95 rfl sizeA8 ?_)
  go_wp2_with fail
  refine lc.mono ?_; rintro e w1 ⟨v, rfl, hc, hb⟩
  go_wp2_with fail
  go_ret
  exact ⟨_, rfl, hc, hb⟩
theorem root_c (w : World) (t : TabAt w 4 limbI) : Calls Tryd.prog 104 #[] w (CanPost eI.val w) := by
  have r := t.rng
  have lc := limbs_c lim8_I w
  go_enter Tryd.func104, Tryd.ntmps104
  go_wp2_with (refine wpList_load_mid rfl 95 _ rfl 4 0 rfl (limbI.map (Value.int .u32)) _ r Tryd.underlying95 rfl sizeA8 ?_)
  go_wp2_with fail
  refine lc.mono ?_; rintro e w1 ⟨v, rfl, hc, hb⟩
  go_wp2_with fail
  go_ret
  exact ⟨_, rfl, hc, hb⟩
theorem add_f {v v' : Value} {x y : Fp} {w : World} (h : NumAt w v x.val) (h' : NumAt w v' y.val) (t : TabAt w 0 limbP) : Calls Tryd.prog 100 #[v, v'] w (NatPost (x + y).val w) := by
  have pc := prime_c w t
  have e : Hid ((x.val + y.val) % eP = (x + y).val) := Lib.hid (fp_add x y).symm
  go_enter Tryd.func100, Tryd.ntmps100
  go_wp2_with fail
  refine pc.mono ?_; rintro e_ w1 ⟨vp, rfl, cp, hb⟩
  have mc := mAdd_v (h.below hb) (h'.below hb) cp.num
  rw [(ok_fp x y).code, e.out] at mc
  clear pc e
  go_wp2_with fail
  refine mc.mono ?_; rintro e_ w2 hm
  obtain ⟨v2, rfl, hr⟩ := hm.2.1 rfl
  have hB := hb.trans (hm.2.2.mono hb.size)
  replace hr := hr.mono hb.size
  clear mc hm hb cp
  go_wp2_with fail
  go_ret
  exact ⟨_, rfl, hr, hB⟩
theorem sub_f {v v' : Value} {x y : Fp} {w : World} (h : NumAt w v x.val) (h' : NumAt w v' y.val) (t : TabAt w 0 limbP) : Calls Tryd.prog 65 #[v, v'] w (NatPost (x - y).val w) := by
  have pc := prime_c w t
  have e : Hid (subM (x.val % eP) (y.val % eP) eP = (x - y).val) := Lib.hid (by rw [fp_mod, fp_mod, fp_subM])
  go_enter Tryd.func65, Tryd.ntmps65
  go_wp2_with fail
  refine pc.mono ?_; rintro e_ w1 ⟨vp, rfl, cp, hb⟩
  have mc := mSub_v (h.below hb) (h'.below hb) cp.num
  rw [(ok_fp x y).code, e.out] at mc
  clear pc e
  go_wp2_with fail
  refine mc.mono ?_; rintro e_ w2 hm
  obtain ⟨v2, rfl, hr⟩ := hm.2.1 rfl
  have hB := hb.trans (hm.2.2.mono hb.size)
  replace hr := hr.mono hb.size
  clear mc hm hb cp
  go_wp2_with fail
  go_ret
  exact ⟨_, rfl, hr, hB⟩
theorem mul_f {v v' : Value} {x y : Fp} {w : World} (h : NumAt w v x.val) (h' : NumAt w v' y.val) (t : TabAt w 0 limbP) : Calls Tryd.prog 98 #[v, v'] w (NatPost (x * y).val w) := by
  have pc := prime_c w t
  have e : Hid (x.val * y.val % eP = (x * y).val) := Lib.hid (fp_mul x y).symm
  go_enter Tryd.func98, Tryd.ntmps98
  go_wp2_with fail
  refine pc.mono ?_; rintro e_ w1 ⟨vp, rfl, cp, hb⟩
  have mc := mMul_v (h.below hb) (h'.below hb) cp.num
  rw [(ok_fp x y).code, e.out] at mc
  clear pc e
  go_wp2_with fail
  refine mc.mono ?_; rintro e_ w2 hm
  obtain ⟨v2, rfl, hr⟩ := hm.2.1 rfl
  have hB := hb.trans (hm.2.2.mono hb.size)
  replace hr := hr.mono hb.size
  clear mc hm hb cp
  go_wp2_with fail
  go_ret
  exact ⟨_, rfl, hr, hB⟩
theorem rest_f {v : Value} {x : Fp} {w : World} (h : NumAt w v x.val) (t : TabAt w 0 limbP) : Calls Tryd.prog 105 #[v] w (NatPost x.val w) := by
  have ac := add_f (y := 0) h (CanAt.nil0 w).num t
  rw [show x + 0 = x by grind] at ac
  go_enter Tryd.func105, Tryd.ntmps105
  go_wp2_with fail
  refine ac.mono ?_; rintro e_ w1 ⟨v1, rfl, hr, hb⟩
  go_wp2_with fail
  go_ret
  exact ⟨_, rfl, hr, hb⟩
theorem power_f {v v' : Value} {x : Fp} {k : Nat} {w : World} (h : NumAt w v x.val) (h' : NumAt w v' k) (hk : bigB k = false) (t : TabAt w 0 limbP) : Calls Tryd.prog 102 #[v, v'] w (NatPost (fpow x k).val w) := by
  have pc := prime_c w t
  have e : Hid (x.val ^ k % eP = (fpow x k).val) := Lib.hid rfl
  have ok : Ok3 x.val k eP := ⟨fp_big x, hk, bigP, twoP⟩
  go_enter Tryd.func102, Tryd.ntmps102
  go_wp2_with fail
  refine pc.mono ?_; rintro e_ w1 ⟨vp, rfl, cp, hb⟩
  have mc := mExp_v (h.below hb) (h'.below hb) cp.num
  rw [ok.code, e.out] at mc
  clear pc e
  go_wp2_with fail
  refine mc.mono ?_; rintro e_ w2 hm
  obtain ⟨v2, rfl, hr⟩ := hm.2.1 rfl
  have hB := hb.trans (hm.2.2.mono hb.size)
  replace hr := hr.mono hb.size
  clear mc hm hb cp
  go_wp2_with fail
  go_ret
  exact ⟨_, rfl, hr, hB⟩
theorem inv_f {v : Value} {x : Fp} {w : World} (h : NumAt w v x.val) (h0 : x ≠ 0) (t : TabAt w 0 limbP) : Calls Tryd.prog 99 #[v] w (NatPost (finv x).val w) := by
  have pc := prime_c w t
  have ok := (ok_fp x 0).code
  rw [fp_zero] at ok
  have gc := fp_gcd h0
  have e : Hid (∀ y : Nat, y < eP → y * x.val % eP = 1 → y = (finv x).val) := Lib.hid fun y hy h1 => fp_inv h0 hy h1
  clear h0
  go_enter Tryd.func99, Tryd.ntmps99
  go_wp2_with fail
  refine pc.mono ?_; rintro e_ w1 ⟨vp, rfl, cp, hb⟩
  have mc := mInv_v (h.below hb) cp.num
  rw [ok] at mc
  have GC := Lib.hid gc
  clear pc ok gc
  go_wp2_with fail
  refine mc.mono ?_; rintro e_ w2 hm
  obtain ⟨v2, y, rfl, hr, hy, h1⟩ := hm.2.2.1 rfl GC.out
  have hB := hb.trans (hm.2.2.2.mono hb.size)
  replace hr := hr.mono hb.size
  have ey := e.out y hy h1
  rw [ey] at hr
  clear mc hm hb cp hy h1 ey
  go_wp2_with fail
  go_ret
  exact ⟨_, rfl, hr, hB⟩
end Go.Proofs.YtlolkighnnedfaaDoor
