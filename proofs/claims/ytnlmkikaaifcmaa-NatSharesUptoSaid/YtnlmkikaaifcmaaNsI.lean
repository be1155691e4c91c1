/- signetlaw6.texts by its contract. (Printed by gen_nsi.py.) -/
import Derived.Test.YtnlmkikaaifcmaaNsD
import Derived.Test.YtnlmkikaaifcmaaNsE
import Derived.Test.YtnlmkikaaifcmaaNsH
import Derived.Test.YtnlmkikaaifcmaaSliceN
import Derived.IntWalk
set_option linter.unusedVariables false
set_option linter.unusedSimpArgs false
namespace Go.Sg
open Go.RowKit
def TypN (w : World) (g : Nat) (T : TypeId) : Prop := ∃ cs z, w.heap[g]? = some (.cells cs T z)
theorem New.typN {B : Nat} {k : IntKind} {E : TypeId} {w : World} {v : Value} {xs : List Int} (h : New B k E w v xs) {g : Nat} (hg : v.ownBlock = some g) : TypN w g E := by
  rcases h with ⟨rfl, _⟩ | ⟨g', cap, cs, rfl, _, hh, _⟩
  · simp [Value.ownBlock] at hg
  · simp [Value.ownBlock] at hg
    subst hg
    exact ⟨cs, _, hh⟩
theorem new_ne {B B' : Nat} {k k' : IntKind} {E E' : TypeId} {w : World} {v v' : Value} {xs ys : List Int} (h : New B k E w v xs) (h' : New B' k' E' w v' ys) (hne : E ≠ E') : ∀ g, v.ownBlock = some g → v'.ownBlock ≠ some g := by
  intro g h1 h2
  obtain ⟨cs, z, e⟩ := h.typN h1
  obtain ⟨cs', z', e'⟩ := h'.typN h2
  rw [e] at e'
  simp only [Option.some.injEq, Obj.cells.injEq] at e'
  exact hne e'.2.1
/-- Where a value's own block lies. -/
def Own (v : Value) (lo hi : Nat) : Prop := ∀ g, v.ownBlock = some g → lo ≤ g ∧ g < hi
theorem Own.ne {v v' : Value} {a b c d : Nat} (h : Own v a b) (h' : Own v' c d) (hd : b ≤ c ∨ d ≤ a) : ∀ g, v.ownBlock = some g → v'.ownBlock ≠ some g := fun g h1 h2 => by
  have := h g h1
  have := h' g h2
  omega
theorem New.fr {B : Nat} {k : IntKind} {E : TypeId} {w w' : World} {v : Value} {xs : List Int} {V : Nat → Value} (h : New B k E w v xs) (fr : FrV V 2 w w') (h0 : ∀ g, v.ownBlock = some g → (V 0).ownBlock ≠ some g) (h1 : ∀ g, v.ownBlock = some g → (V 1).ownBlock ≠ some g) : New B k E w' v xs :=
  h.by_blocks fun g hg => fr.2 g (h.lt g hg).2 fun j hj => by
    rcases (show j = 0 ∨ j = 1 by omega) with rfl | rfl
    · exact h0 g hg
    · exact h1 g hg
theorem Blk.kp {w w' : World} {g : Nat} {k : IntKind} {E : TypeId} {xs : List Int} (h : Blk w g k E xs) (hb : Below w.heap.size w w') : Blk w' g k E xs := h.below hb h.lt
theorem nth_set_same (xs : List Int) (i : Nat) (x : Int) (h : i < xs.length) : nth (xs.set i x) i = x := by rw [nth_set _ _ _ _ h, if_pos rfl]
theorem nth_set_other (xs : List Int) (i j : Nat) (x : Int) (h : i ≠ j) : nth (xs.set i x) j = nth xs j := by
  by_cases hl : i < xs.length
  · rw [nth_set _ _ _ _ hl, if_neg h]
  · rw [List.set_eq_of_length_le (by omega)]
def gvT (rs : List Int) (N j : Nat) : Int := if j < N then nth rs j % 256 else (7 + (j : Int)) % 256
end Go.Sg
namespace Go.Proofs.Ytnlmkikaaifcmaa
open Go.RowKit Go.Sg
theorem fb_lim {bs : List Int} {k : Nat} (h : bs.length ≤ 4 * k) (u : U8 bs) : Lim k (bval bs) := ⟨by
  rw [R_pow_256]
  exact Nat.lt_of_lt_of_le (bval_lt u) (Nat.pow_le_pow_right (by decide) h)⟩
theorem size8N : (Try.prog.info? 5).map (·.size) = some 1 := by kernel_rfl
/-- Two numbers, laid in a row. -/
theorem lists2n {B : Nat} {w : World} {vx vy : Value} {xs ys : List Int} (nx : New B .u32 25 w vx xs) (ny : New B .u32 25 w vy ys) (ap : ∀ g, vx.ownBlock = some g → vy.ownBlock ≠ some g) (hB : B ≤ w.heap.size) :
    ∃ V A, Lists B .u32 25 23 (w.alloc (.cells #[vx, vy] 23)) (.slice (some ⟨w.heap.size, 0, none⟩) 2 2) 2 V A ∧ V 0 = vx ∧ V 1 = vy ∧ (A 0 = xs ∧ A 1 = ys) := by
  have al := (Below.refl w.heap.size w).alloc (Nat.le_refl _) (.cells #[vx, vy] 23)
  refine ⟨fun j => if j = 0 then vx else vy, fun j => if j = 0 then xs else ys, ⟨?_, ?_⟩, rfl, rfl, rfl, rfl⟩
  · refine .inr ⟨w.heap.size, 2, #[vx, vy], rfl, hB, Go.heap_alloc_new _ _, by simp, by simp, by omega, ?_⟩
    simp [List.range_succ]
  · refine ⟨fun i hi => ?_, fun i j hi hj hne g hg => ?_⟩
    · rcases (show i = 0 ∨ i = 1 by omega) with rfl | rfl
      · exact nx.keep al
      · exact ny.keep al
    · rcases (show i = 0 ∨ i = 1 by omega) with rfl | rfl <;> rcases (show j = 0 ∨ j = 1 by omega) with rfl | rfl
      · exact absurd rfl hne
      · exact ap g hg
      · exact fun h => ap g h hg
      · exact absurd rfl hne
set_option maxHeartbeats 16000000 in
set_option maxRecDepth 20000 in
theorem texts_c {aa ar : Option Addr} {ca cr N : Nat} {xs rs : List Int} {w : World} (sa : Sl .u32 w aa ca xs) (ua : U32 xs) (sr : Sl .u32 w ar cr rs) (ur : U32 rs) (hx : xs.length = N) (hr : rs.length = N) (hN : N ≤ 4096) :
    Calls Try.prog 11 #[.slice aa N ca, .slice ar N cr] w (fun e w' => e = .returned (.bool true) ∧ Below w.heap.size w w') := by
  have BA := fun (w : World) (a : Option Addr) (c : Nat) (s : Sl .u32 w a c xs) => Bytes_c a c xs w s ua (by omega)
  have FA := fun (w : World) (a : Option Addr) (c : Nat) (s : Sl .u32 w a c xs) => Fixed_c a c xs (4 * (N : Int) + 3) w s ua (by omega) (by omega)
  unfold NBytesPost at BA
  unfold FixedPost at FA
  obtain ⟨bs, hbs⟩ : ∃ u, u = beN (val xs) (blen (val xs)) := ⟨_, rfl⟩
  obtain ⟨fl, hfl⟩ : ∃ u, u = fixL (val xs) (4 * (N : Int) + 3) := ⟨_, rfl⟩
  obtain ⟨ft, hft⟩ : ∃ u, u = fitB (val xs) (4 * (N : Int) + 3) := ⟨_, rfl⟩
  have lbs : Hid (bs.length ≤ 4294967296) := Lib.hid (by
    rw [hbs, beN_len]
    have h1 := (bl_le_iff (val xs) (32 * xs.length)).2 (by rw [← Rpow_two]; exact val_lt ua)
    unfold blen
    omega)
  have lfl : Hid (fl.length ≤ 4294967296) := Lib.hid (by
    rw [hfl]
    unfold fixL
    split
    · rw [beN_len]; omega
    · simp)
  rw [← hbs] at BA
  rw [← hfl, ← hft] at FA
  rw [hx] at BA FA
  have FU := fun (W : World) => FromUint_c 1099511627781 W (by omega)
  unfold FromUintPost at FU
  rw [show ((1099511627781 : Nat) : Int) = 1099511627781 from rfl] at FU
  have HR := Lib.hid hr
  have HX := Lib.hid hx
  clear hbs hfl hft hr hx
  go_enter Try.func11, Try.ntmps11
  go_wp2_with (at_make; refine wpList_make_blk _ rfl _ _ 44 rfl 5 .u8 1 Try.underlying44 info8a (N + 6) _ _ rfl rfl (by omega) (by omega) (by omega) (by omega) ?_)
  intro w1 hk1 hs1 hb1
  obtain ⟨G, hG⟩ : ∃ G, G = w.heap.size := ⟨_, rfl⟩
  rw [← hG] at hk1 ⊢
  have hge : w.heap.size ≤ G := by omega
  have hY0 : Hid ((List.replicate (N + 6) (0 : Int)).length = N + 6 ∧ U8 (List.replicate (N + 6) 0) ∧ ∀ j, j < 0 → nth (List.replicate (N + 6) (0 : Int)) j = gvT rs N j) := Lib.hid ⟨List.length_replicate, InR.zeros (by omega) _, fun j hj => by omega⟩
  clear hG hs1
  go_wp2_with fail
  go_loopw [6] (fun t wr => ∃ (i : Nat) (Y : List Int), i ≤ N + 6 ∧ t = .int .i64 (i : Int) ∧ Blk wr G .u8 5 Y ∧ Hid (Y.length = N + 6 ∧ U8 Y ∧ ∀ j, j < i → nth Y j = gvT rs N j) ∧ Below w.heap.size w wr) (fun t _ => N + 6 - (intOf t).toNat)
  case atStart => exact ⟨0, _, by omega, rfl, hk1, hY0, hb1⟩
  case round =>
    clear hk1 hY0 hb1
    obtain ⟨i, Y, hi, rfl, kg, hY, hB⟩ := hrel
    by_cases hlt : i < N + 6
    · have hd : decide ((i : Int) < ((N + 6 : Nat) : Int)) = true := decide_eq_true (by omega)
      have hi6 : (i : Int) < (N : Int) + 6 := by omega
      have hd6 : decide ((i : Int) < (N : Int) + 6) = true := decide_eq_true hi6
      have hd7 : decide (i < N + 6) = true := decide_eq_true hlt
      have c0 := kg.cell i (by rw [hY.out.1]; exact hlt)
      have f0 := kg.free i
      obtain ⟨b7, hb7⟩ : ∃ b, b = (7 + (i : Int)) % 256 := ⟨_, rfl⟩
      have e7 : IntKind.u8.wrap (7 + (i : Int)) = b7 := by rw [IntKind.wrap_u8', hb7]
      have e8 : (7 + (i : Int)) % 256 = b7 := hb7.symm
      have r7 : 0 ≤ b7 ∧ b7 ≤ 255 := by omega
      have H7 := Lib.hid hb7
      have kg' := kg.set i b7
      have hB' := hB.setCell (p := ⟨G, i, none⟩) hge (.int .u8 b7)
      clear hb7
      by_cases hlo : i < N
      · have hdl : decide ((i : Int) < (N : Int)) = true := decide_eq_true (by omega)
        have hdm : decide (i < N) = true := decide_eq_true hlo
        have hil : (i : Int) < (N : Int) := by omega
        obtain ⟨br, orr, rfl, hcr⟩ := (sr.below hB').cells (by rw [HR.out]; omega)
        have cr_ := hcr i (by rw [HR.out]; exact hlo)
        have rx := ur i
        obtain ⟨xi, hxi⟩ : ∃ x, x = nth rs i := ⟨_, rfl⟩
        rw [← hxi] at cr_ rx
        obtain ⟨x8, hx8⟩ : ∃ b, b = xi % 256 := ⟨_, rfl⟩
        have ex : IntKind.u8.wrap xi = x8 := by rw [IntKind.wrap_u8', hx8]
        have ex2 : xi % 256 = x8 := hx8.symm
        have rx8 : 0 ≤ x8 ∧ x8 ≤ 255 := by omega
        have c1 := kg'.cell i (by rw [List.length_set, hY.out.1]; exact hlt)
        have f1 := kg'.free i
        have kg2 := kg'.set i x8
        have hB2 := hB'.setCell (p := ⟨G, i, none⟩) hge (.int .u8 x8)
        have hY2 : Hid (((Y.set i b7).set i x8).length = N + 6 ∧ U8 ((Y.set i b7).set i x8) ∧ ∀ j, j < i + 1 → nth ((Y.set i b7).set i x8) j = gvT rs N j) := Lib.hid ⟨by rw [List.length_set, List.length_set]; exact hY.out.1, (hY.out.2.1.set i r7.1 r7.2).set i rx8.1 rx8.2, fun j hj => by
          by_cases e : j = i
          · subst e
            rw [nth_set_same _ _ _ (by rw [List.length_set, hY.out.1]; exact hlt)]
            unfold gvT
            rw [if_pos hlo, hx8, hxi]
          · rw [nth_set_other _ _ _ _ (fun h => e h.symm), nth_set_other _ _ _ _ (fun h => e h.symm)]
            exact hY.out.2.2 j (by omega)⟩
        clear hcr hxi hx8 kg kg' hY hB hB'
        go_wp2_with fail
        go_roundw
        case rel => exact ⟨i + 1, _, by omega, by go_num, kg2, hY2, hB2⟩
        case measure => simp [intOf]; omega
      · have hdl : decide ((i : Int) < (N : Int)) = false := decide_eq_false (by omega)
        have hdm : decide (i < N) = false := decide_eq_false hlo
        have hil : ¬ (i : Int) < (N : Int) := by omega
        have hY2 : Hid ((Y.set i b7).length = N + 6 ∧ U8 (Y.set i b7) ∧ ∀ j, j < i + 1 → nth (Y.set i b7) j = gvT rs N j) := Lib.hid ⟨by rw [List.length_set]; exact hY.out.1, hY.out.2.1.set i r7.1 r7.2, fun j hj => by
          by_cases e : j = i
          · subst e
            rw [nth_set_same _ _ _ (by rw [hY.out.1]; exact hlt)]
            unfold gvT
            rw [if_neg hlo, H7.out]
          · rw [nth_set_other _ _ _ _ (fun h => e h.symm)]
            exact hY.out.2.2 j (by omega)⟩
        clear kg hY hB
        go_wp2_with fail
        go_roundw
        case rel => exact ⟨i + 1, _, by omega, by go_num, kg', hY2, hB'⟩
        case measure => simp [intOf]; omega
    · obtain rfl : i = N + 6 := by omega
      have hd : decide (((N + 6 : Nat) : Int) < ((N + 6 : Nat) : Int)) = false := by simp
      obtain ⟨w2, rfl⟩ : ∃ x, x = wr := ⟨_, rfl⟩
      have rto := fun W => run_to (P := Try.prog) W 44 5 Try.underlying44 size8N (some ⟨G, 0, none⟩) (N + 6) (N + 6) N (by omega) (N : Int) rfl
      have lT : Hid ((Y.take N).length = N) := Lib.hid (by rw [List.length_take, hY.out.1]; omega)
      have FB := fun (W : World) (k : Blk W G .u8 5 Y) => FromBytes_c _ _ (Y.take N) W (k.sl N (N + 6) (by omega) (by omega)) (hY.out.2.1.take (by omega) N) (by rw [lT.out]; omega)
      rw [lT.out] at FB
      obtain ⟨p, hp⟩ : ∃ p, p = bval (Y.take N) := ⟨_, rfl⟩
      rw [← hp] at FB
      unfold NatPost at FB
      have hpp := Lib.hid hp
      clear hp hlt
      have zz : w.heap.size ≤ w2.heap.size := hB.size
      have gl := kg.lt
      go_wp2_with fail
      refine (FB _ kg).mono ?_; rintro e_ w3 ⟨vn, rfl, ⟨zs, n, cz, uz, pz⟩, hb⟩
      have lzs : Hid (zs.length ≤ 4294967296) := Lib.hid (Nat.le_trans (Lim.len ((fb_lim (show (Y.take N).length ≤ 4 * 4294967296 by rw [lT.out]; omega) (hY.out.2.1.take (by omega) N)).eq (pz.trans hpp.out)) cz uz) (Nat.le_refl _))
      skip
      have on : Own vn w2.heap.size w3.heap.size := fun q_ hq_ => n.lt q_ hq_
      have z3 := hb.size
      replace n := n.mono (show w2.heap.size ≤ w2.heap.size by omega)
      replace hB := hB.trans (hb.mono hB.size)
      replace kg := kg.kp hb
      clear hb
      go_wp2_with fail
      refine (FB _ kg).mono ?_; rintro e_ w4 ⟨vm, rfl, ⟨zs2, m, cz2, uz2, pz2⟩, hb⟩
      obtain rfl : zs = zs2 := cz.ext cz2 uz uz2 (pz.trans pz2.symm)
      clear cz cz2 uz2 pz pz2
      have om : Own vm w3.heap.size w4.heap.size := fun q_ hq_ => m.lt q_ hq_
      have z4 := hb.size
      replace m := m.mono (show w2.heap.size ≤ w3.heap.size by omega)
      replace n := n.keep hb
      replace hB := hB.trans (hb.mono hB.size)
      replace kg := kg.kp hb
      clear hb
      go_wp2_with fail
      refine (FU _).mono ?_; rintro e_ w5 ⟨vf, rfl, ⟨_, fs, -, f, cf, uf, pf⟩, hb⟩
      have lfs : Hid (fs.length ≤ 4294967296) := Lib.hid (Nat.le_trans (Lim.len ((⟨by decide⟩ : Lim 2 1099511627781).eq pf) cf uf) (by omega))
      skip
      have of : Own vf w4.heap.size w5.heap.size := fun q_ hq_ => f.lt q_ hq_
      have z5 := hb.size
      replace f := f.mono (show w2.heap.size ≤ w4.heap.size by omega)
      replace n := n.keep hb
      replace m := m.keep hb
      replace hB := hB.trans (hb.mono hB.size)
      replace kg := kg.kp hb
      clear hb
      go_wp2_with fail
      refine (FU _).mono ?_; rintro e_ w6 ⟨vg, rfl, ⟨_, fs2, -, g, cf2, uf2, pf2⟩, hb⟩
      obtain rfl : fs = fs2 := cf.ext cf2 uf uf2 (pf.trans pf2.symm)
      clear cf cf2 uf2 pf pf2
      have og : Own vg w5.heap.size w6.heap.size := fun q_ hq_ => g.lt q_ hq_
      have z6 := hb.size
      replace g := g.mono (show w2.heap.size ≤ w5.heap.size by omega)
      replace n := n.keep hb
      replace m := m.keep hb
      replace f := f.keep hb
      replace hB := hB.trans (hb.mono hB.size)
      replace kg := kg.kp hb
      clear hb
      go_wp2_with fail
      refine (BA _ _ _ (sa.below hB)).mono ?_; rintro e_ w7 ⟨vx, rfl, x, hb⟩
      skip
      have ox : Own vx w6.heap.size w7.heap.size := fun q_ hq_ => x.lt q_ hq_
      have z7 := hb.size
      replace x := x.mono (show w2.heap.size ≤ w6.heap.size by omega)
      replace n := n.keep hb
      replace m := m.keep hb
      replace f := f.keep hb
      replace g := g.keep hb
      replace hB := hB.trans (hb.mono hB.size)
      replace kg := kg.kp hb
      clear hb
      go_wp2_with fail
      refine (BA _ _ _ (sa.below hB)).mono ?_; rintro e_ w8 ⟨vy, rfl, y, hb⟩
      skip
      have oy : Own vy w7.heap.size w8.heap.size := fun q_ hq_ => y.lt q_ hq_
      have z8 := hb.size
      replace y := y.mono (show w2.heap.size ≤ w7.heap.size by omega)
      replace n := n.keep hb
      replace m := m.keep hb
      replace f := f.keep hb
      replace g := g.keep hb
      replace x := x.keep hb
      replace hB := hB.trans (hb.mono hB.size)
      replace kg := kg.kp hb
      clear hb
      go_wp2_with fail
      refine (FA _ _ _ (sa.below hB)).mono ?_; rintro e_ w9 ⟨vz, rfl, z, hb⟩
      skip
      have oz : Own vz w8.heap.size w9.heap.size := fun q_ hq_ => z.lt q_ hq_
      have z9 := hb.size
      replace z := z.mono (show w2.heap.size ≤ w8.heap.size by omega)
      replace n := n.keep hb
      replace m := m.keep hb
      replace f := f.keep hb
      replace g := g.keep hb
      replace x := x.keep hb
      replace y := y.keep hb
      replace hB := hB.trans (hb.mono hB.size)
      replace kg := kg.kp hb
      clear hb
      go_wp2_with fail
      refine (FA _ _ _ (sa.below hB)).mono ?_; rintro e_ w10 ⟨vv, rfl, v, hb⟩
      skip
      have ov : Own vv w9.heap.size w10.heap.size := fun q_ hq_ => v.lt q_ hq_
      have z10 := hb.size
      replace v := v.mono (show w2.heap.size ≤ w9.heap.size by omega)
      replace n := n.keep hb
      replace m := m.keep hb
      replace f := f.keep hb
      replace g := g.keep hb
      replace x := x.keep hb
      replace y := y.keep hb
      replace z := z.keep hb
      replace hB := hB.trans (hb.mono hB.size)
      replace kg := kg.kp hb
      clear hb
      obtain ⟨an, cn, rfl, -⟩ := n.sl
      obtain ⟨am, cm, rfl, -⟩ := m.sl
      obtain ⟨af, cf, rfl, -⟩ := f.sl
      obtain ⟨ag, cg, rfl, -⟩ := g.sl
      obtain ⟨ax, cx, rfl, -⟩ := x.sl
      obtain ⟨ay, cy, rfl, -⟩ := y.sl
      obtain ⟨az, cz, rfl, -⟩ := z.sl
      obtain ⟨av, cv, rfl, -⟩ := v.sl
      obtain ⟨lzs_, hlzs_⟩ : ∃ l, l = zs.length := ⟨_, rfl⟩
      have Lzs_ := Lib.hid hlzs_
      obtain ⟨lfs_, hlfs_⟩ : ∃ l, l = fs.length := ⟨_, rfl⟩
      have Lfs_ := Lib.hid hlfs_
      obtain ⟨lbs_, hlbs_⟩ : ∃ l, l = bs.length := ⟨_, rfl⟩
      have Lbs_ := Lib.hid hlbs_
      obtain ⟨lfl_, hlfl_⟩ : ∃ l, l = fl.length := ⟨_, rfl⟩
      have Lfl_ := Lib.hid hlfl_
      rw [← hlzs_] at n on
      rw [← hlzs_] at m om
      rw [← hlfs_] at f of
      rw [← hlfs_] at g og
      rw [← hlbs_] at x ox
      rw [← hlbs_] at y oy
      rw [← hlfl_] at z oz
      rw [← hlfl_] at v ov
      rw [← hlzs_, ← hlfs_, ← hlbs_, ← hlfl_]
      clear hlzs_ hlfs_ hlbs_ hlfl_
      have nzs : ((lzs_ : Int) != (lzs_ : Int)) = false := by simp
      have sn : Sl .u32 w10 an cn zs := by
        obtain ⟨a2, c2, hv, s2⟩ := n.sl
        simp only [Value.slice.injEq] at hv
        obtain ⟨rfl, -, rfl⟩ := hv
        exact s2
      have sm : Sl .u32 w10 am cm zs := by
        obtain ⟨a2, c2, hv, s2⟩ := m.sl
        simp only [Value.slice.injEq] at hv
        obtain ⟨rfl, -, rfl⟩ := hv
        exact s2
      have h_ := Cmp_eq _ _ _ _ zs zs _ sn sm uz uz rfl
      unfold CmpPost at h_
      rw [← Lzs_.out] at h_
      clear sn sm
      go_wp2_with fail
      refine (h_).mono ?_; rintro e_ w11 ⟨rfl, hd_⟩
      have hb := Dr.bl hd_
      clear hd_ h_
      have z11 := hb.size
      replace n := n.keep hb
      replace m := m.keep hb
      replace f := f.keep hb
      replace g := g.keep hb
      replace x := x.keep hb
      replace y := y.keep hb
      replace z := z.keep hb
      replace v := v.keep hb
      replace hB := hB.trans (hb.mono hB.size)
      replace kg := kg.kp hb
      clear hb
      have sf : Sl .u32 w11 af cf fs := by
        obtain ⟨a2, c2, hv, s2⟩ := f.sl
        simp only [Value.slice.injEq] at hv
        obtain ⟨rfl, -, rfl⟩ := hv
        exact s2
      have sg : Sl .u32 w11 ag cg fs := by
        obtain ⟨a2, c2, hv, s2⟩ := g.sl
        simp only [Value.slice.injEq] at hv
        obtain ⟨rfl, -, rfl⟩ := hv
        exact s2
      have h_ := Cmp_eq _ _ _ _ fs fs _ sf sg uf uf rfl
      unfold CmpPost at h_
      rw [← Lfs_.out] at h_
      clear sf sg
      go_wp2_with fail
      refine (h_).mono ?_; rintro e_ w12 ⟨rfl, hd_⟩
      have hb := Dr.bl hd_
      clear hd_ h_
      have z12 := hb.size
      replace n := n.keep hb
      replace m := m.keep hb
      replace f := f.keep hb
      replace g := g.keep hb
      replace x := x.keep hb
      replace y := y.keep hb
      replace z := z.keep hb
      replace v := v.keep hb
      replace hB := hB.trans (hb.mono hB.size)
      replace kg := kg.kp hb
      clear hb
      have sx : Sl .u8 w12 ax cx bs := by
        obtain ⟨a2, c2, hv, s2⟩ := x.sl
        simp only [Value.slice.injEq] at hv
        obtain ⟨rfl, -, rfl⟩ := hv
        exact s2
      have sy : Sl .u8 w12 ay cy bs := by
        obtain ⟨a2, c2, hv, s2⟩ := y.sl
        simp only [Value.slice.injEq] at hv
        obtain ⟨rfl, -, rfl⟩ := hv
        exact s2
      have h_ := sameBytes_c _ _ _ _ bs bs _ sx sy
      unfold BoolPost at h_
      rw [decide_eq_true rfl, ← Lbs_.out] at h_
      clear sx sy
      go_wp2_with fail
      refine (h_).mono ?_; rintro e_ w13 ⟨rfl, hd_⟩
      have hb := Dr.bl hd_
      clear hd_ h_
      have z13 := hb.size
      replace n := n.keep hb
      replace m := m.keep hb
      replace f := f.keep hb
      replace g := g.keep hb
      replace x := x.keep hb
      replace y := y.keep hb
      replace z := z.keep hb
      replace v := v.keep hb
      replace hB := hB.trans (hb.mono hB.size)
      replace kg := kg.kp hb
      clear hb
      have sz : Sl .u8 w13 az cz fl := by
        obtain ⟨a2, c2, hv, s2⟩ := z.sl
        simp only [Value.slice.injEq] at hv
        obtain ⟨rfl, -, rfl⟩ := hv
        exact s2
      have sv : Sl .u8 w13 av cv fl := by
        obtain ⟨a2, c2, hv, s2⟩ := v.sl
        simp only [Value.slice.injEq] at hv
        obtain ⟨rfl, -, rfl⟩ := hv
        exact s2
      have h_ := sameBytes_c _ _ _ _ fl fl _ sz sv
      unfold BoolPost at h_
      rw [decide_eq_true rfl, ← Lfl_.out] at h_
      clear sz sv
      go_wp2_with fail
      refine (h_).mono ?_; rintro e_ w14 ⟨rfl, hd_⟩
      have hb := Dr.bl hd_
      clear hd_ h_
      have z14 := hb.size
      replace n := n.keep hb
      replace m := m.keep hb
      replace f := f.keep hb
      replace g := g.keep hb
      replace x := x.keep hb
      replace y := y.keep hb
      replace z := z.keep hb
      replace v := v.keep hb
      replace hB := hB.trans (hb.mono hB.size)
      replace kg := kg.kp hb
      clear hb
      have sm : Sl .u32 w14 am cm zs := by
        obtain ⟨a2, c2, hv, s2⟩ := m.sl
        simp only [Value.slice.injEq] at hv
        obtain ⟨rfl, -, rfl⟩ := hv
        exact s2
      have l_ := sm.le
      have m_ := sm.max
      have k_ : zs.length ≤ 4294967296 := lzs.out
      go_wp2_with (at_builtin; refine wpList_append_new _ rfl _ _ 23 rfl w14.heap.size 25 .u32 4 Try.underlying23 info32 _ [] rfl (New.nil _ _ _ _) _ _ _ zs rfl Lzs_.out sm.cells (by simp; omega) (by simp; omega) (Nat.le_refl _) ?_)
      intro vmm w15 mm hg_ _
      replace mm : New w14.heap.size .u32 25 w15 vmm zs := mm
      have hb : Below w14.heap.size w14 w15 := (Below.refl _ _).grown hg_ (Nat.le_refl _) (fun g hg => by simp [Value.ownBlock] at hg)
      clear hg_ sm l_ m_ k_
      have omm : Own vmm w14.heap.size w15.heap.size := fun q_ hq_ => mm.lt q_ hq_
      have z15 := hb.size
      replace mm := mm.mono (show w2.heap.size ≤ w14.heap.size by omega)
      replace n := n.keep hb
      replace m := m.keep hb
      replace f := f.keep hb
      replace g := g.keep hb
      replace x := x.keep hb
      replace y := y.keep hb
      replace z := z.keep hb
      replace v := v.keep hb
      replace hB := hB.trans (hb.mono hB.size)
      replace kg := kg.kp hb
      clear hb
      have sg : Sl .u32 w15 ag cg fs := by
        obtain ⟨a2, c2, hv, s2⟩ := g.sl
        simp only [Value.slice.injEq] at hv
        obtain ⟨rfl, -, rfl⟩ := hv
        exact s2
      have l_ := sg.le
      have m_ := sg.max
      have k_ : fs.length ≤ 4294967296 := lfs.out
      go_wp2_with (at_builtin; refine wpList_append_new _ rfl _ _ 23 rfl w15.heap.size 25 .u32 4 Try.underlying23 info32 _ [] rfl (New.nil _ _ _ _) _ _ _ fs rfl Lfs_.out sg.cells (by simp; omega) (by simp; omega) (Nat.le_refl _) ?_)
      intro vgg w16 gg hg_ _
      replace gg : New w15.heap.size .u32 25 w16 vgg fs := gg
      have hb : Below w15.heap.size w15 w16 := (Below.refl _ _).grown hg_ (Nat.le_refl _) (fun g hg => by simp [Value.ownBlock] at hg)
      clear hg_ sg l_ m_ k_
      have ogg : Own vgg w15.heap.size w16.heap.size := fun q_ hq_ => gg.lt q_ hq_
      have z16 := hb.size
      replace gg := gg.mono (show w2.heap.size ≤ w15.heap.size by omega)
      replace n := n.keep hb
      replace m := m.keep hb
      replace f := f.keep hb
      replace g := g.keep hb
      replace x := x.keep hb
      replace y := y.keep hb
      replace z := z.keep hb
      replace v := v.keep hb
      replace mm := mm.keep hb
      replace hB := hB.trans (hb.mono hB.size)
      replace kg := kg.kp hb
      clear hb
      have sy : Sl .u8 w16 ay cy bs := by
        obtain ⟨a2, c2, hv, s2⟩ := y.sl
        simp only [Value.slice.injEq] at hv
        obtain ⟨rfl, -, rfl⟩ := hv
        exact s2
      have l_ := sy.le
      have m_ := sy.max
      have k_ : bs.length ≤ 4294967296 := lbs.out
      go_wp2_with (at_builtin; refine wpList_append_new _ rfl _ _ 44 rfl w16.heap.size 5 .u8 1 Try.underlying44 info8a _ [] rfl (New.nil _ _ _ _) _ _ _ bs rfl Lbs_.out sy.cells (by simp; omega) (by simp; omega) (Nat.le_refl _) ?_)
      intro vyy w17 yy hg_ _
      replace yy : New w16.heap.size .u8 5 w17 vyy bs := yy
      have hb : Below w16.heap.size w16 w17 := (Below.refl _ _).grown hg_ (Nat.le_refl _) (fun g hg => by simp [Value.ownBlock] at hg)
      clear hg_ sy l_ m_ k_
      have oyy : Own vyy w16.heap.size w17.heap.size := fun q_ hq_ => yy.lt q_ hq_
      have z17 := hb.size
      replace yy := yy.mono (show w2.heap.size ≤ w16.heap.size by omega)
      replace n := n.keep hb
      replace m := m.keep hb
      replace f := f.keep hb
      replace g := g.keep hb
      replace x := x.keep hb
      replace y := y.keep hb
      replace z := z.keep hb
      replace v := v.keep hb
      replace mm := mm.keep hb
      replace gg := gg.keep hb
      replace hB := hB.trans (hb.mono hB.size)
      replace kg := kg.kp hb
      clear hb
      have sv : Sl .u8 w17 av cv fl := by
        obtain ⟨a2, c2, hv, s2⟩ := v.sl
        simp only [Value.slice.injEq] at hv
        obtain ⟨rfl, -, rfl⟩ := hv
        exact s2
      have l_ := sv.le
      have m_ := sv.max
      have k_ : fl.length ≤ 4294967296 := lfl.out
      go_wp2_with (at_builtin; refine wpList_append_new _ rfl _ _ 44 rfl w17.heap.size 5 .u8 1 Try.underlying44 info8a _ [] rfl (New.nil _ _ _ _) _ _ _ fl rfl Lfl_.out sv.cells (by simp; omega) (by simp; omega) (Nat.le_refl _) ?_)
      intro vvw w18 vw hg_ _
      replace vw : New w17.heap.size .u8 5 w18 vvw fl := vw
      have hb : Below w17.heap.size w17 w18 := (Below.refl _ _).grown hg_ (Nat.le_refl _) (fun g hg => by simp [Value.ownBlock] at hg)
      clear hg_ sv l_ m_ k_
      have ovw : Own vvw w17.heap.size w18.heap.size := fun q_ hq_ => vw.lt q_ hq_
      have z18 := hb.size
      replace vw := vw.mono (show w2.heap.size ≤ w17.heap.size by omega)
      replace n := n.keep hb
      replace m := m.keep hb
      replace f := f.keep hb
      replace g := g.keep hb
      replace x := x.keep hb
      replace y := y.keep hb
      replace z := z.keep hb
      replace v := v.keep hb
      replace mm := mm.keep hb
      replace gg := gg.keep hb
      replace yy := yy.keep hb
      replace hB := hB.trans (hb.mono hB.size)
      replace kg := kg.kp hb
      clear hb
      obtain ⟨V, A, hL, hV0, hV1, hA⟩ := lists2n n f (on.ne of (.inl (by omega))) (show w2.heap.size ≤ w18.heap.size by omega)
      have al := (Below.refl w18.heap.size w18).alloc (Nat.le_refl _) (.cells #[Value.slice an lzs_ cn, Value.slice af lfs_ cf] 23)
      have z_ := al.size
      have st_ := stand_c w2.heap.size 2 _ 2 V A _ hL (by omega) (fun j hj => by
        rcases (show j = 0 ∨ j = 1 by omega) with rfl | rfl
        · rw [hA.1]; exact lzs.out
        · rw [hA.2]; exact lfs.out) (by omega)
      unfold StandPost at st_
      go_wp2_with fail
      refine st_.mono ?_; rintro e_ w19 ⟨rfl, fr, be⟩
      have z19 := fr.1
      clear st_ hL hA
      replace m := (m.keep al).fr fr (by rw [hV0]; exact om.ne on (by omega)) (by rw [hV1]; exact om.ne of (by omega))
      replace g := (g.keep al).fr fr (by rw [hV0]; exact og.ne on (by omega)) (by rw [hV1]; exact og.ne of (by omega))
      replace mm := (mm.keep al).fr fr (by rw [hV0]; exact omm.ne on (by omega)) (by rw [hV1]; exact omm.ne of (by omega))
      replace gg := (gg.keep al).fr fr (by rw [hV0]; exact ogg.ne on (by omega)) (by rw [hV1]; exact ogg.ne of (by omega))
      replace x := (x.keep al).fr fr (by rw [hV0]; exact new_ne (x.keep al) (n.keep al) (by decide)) (by rw [hV1]; exact new_ne (x.keep al) (f.keep al) (by decide))
      replace y := (y.keep al).fr fr (by rw [hV0]; exact new_ne (y.keep al) (n.keep al) (by decide)) (by rw [hV1]; exact new_ne (y.keep al) (f.keep al) (by decide))
      replace z := (z.keep al).fr fr (by rw [hV0]; exact new_ne (z.keep al) (n.keep al) (by decide)) (by rw [hV1]; exact new_ne (z.keep al) (f.keep al) (by decide))
      replace v := (v.keep al).fr fr (by rw [hV0]; exact new_ne (v.keep al) (n.keep al) (by decide)) (by rw [hV1]; exact new_ne (v.keep al) (f.keep al) (by decide))
      replace yy := (yy.keep al).fr fr (by rw [hV0]; exact new_ne (yy.keep al) (n.keep al) (by decide)) (by rw [hV1]; exact new_ne (yy.keep al) (f.keep al) (by decide))
      replace vw := (vw.keep al).fr fr (by rw [hV0]; exact new_ne (vw.keep al) (n.keep al) (by decide)) (by rw [hV1]; exact new_ne (vw.keep al) (f.keep al) (by decide))
      have kal := kg.kp al
      replace kg : Blk w19 G .u8 5 Y := (be.block G gl).trans kal
      replace hB := (hB.trans (al.mono hB.size)).trans (be.mono zz)
      clear fr be al kal hV0 hV1 n f on of
      have la := lasts_c x z (ox.ne oz (.inl (by omega))) lbs.out lfl.out (show w2.heap.size ≤ w19.heap.size by omega)
      unfold LastPost at la
      go_wp2_with fail
      refine la.mono ?_; rintro e_ w20 ⟨rfl, V2, hV0, hV1, fr, be⟩
      have z20 := fr.1
      clear la
      replace m := m.fr fr (by rw [hV0]; exact new_ne m x (by decide)) (by rw [hV1]; exact new_ne m z (by decide))
      replace g := g.fr fr (by rw [hV0]; exact new_ne g x (by decide)) (by rw [hV1]; exact new_ne g z (by decide))
      replace mm := mm.fr fr (by rw [hV0]; exact new_ne mm x (by decide)) (by rw [hV1]; exact new_ne mm z (by decide))
      replace gg := gg.fr fr (by rw [hV0]; exact new_ne gg x (by decide)) (by rw [hV1]; exact new_ne gg z (by decide))
      replace y := y.fr fr (by rw [hV0]; exact oy.ne ox (by omega)) (by rw [hV1]; exact oy.ne oz (by omega))
      replace v := v.fr fr (by rw [hV0]; exact ov.ne ox (by omega)) (by rw [hV1]; exact ov.ne oz (by omega))
      replace yy := yy.fr fr (by rw [hV0]; exact oyy.ne ox (by omega)) (by rw [hV1]; exact oyy.ne oz (by omega))
      replace vw := vw.fr fr (by rw [hV0]; exact ovw.ne ox (by omega)) (by rw [hV1]; exact ovw.ne oz (by omega))
      replace kg : Blk w20 G .u8 5 Y := (be.block G gl).trans kg
      replace hB := hB.trans (be.mono zz)
      clear fr be hV0 hV1 x z ox oz om og omm ogg oy ov oyy ovw
      have rf := Below.refl w20.heap.size w20
      go_wp2_with fail
      go_loopw [22] (fun t wr => ∃ i : Nat, i ≤ N + 6 ∧ t = .int .i64 (i : Int) ∧ Dr w20 wr) (fun t _ => N + 6 - (intOf t).toNat)
      case atStart => exact ⟨0, by omega, rfl, .refl _⟩
      case round =>
        obtain ⟨i, hi, rfl, nd, rfl⟩ := hrel
        by_cases hlt : i < N + 6
        · have hd : decide ((i : Int) < ((N + 6 : Nat) : Int)) = true := decide_eq_true (by omega)
          have hi6 : (i : Int) < (N : Int) + 6 := by omega
          have hd6 : decide ((i : Int) < (N : Int) + 6) = true := decide_eq_true hi6
          have hd7 : decide (i < N + 6) = true := decide_eq_true hlt
          have c0 := kg.cell i (by rw [hY.out.1]; exact hlt)
          have gi := hY.out.2.2 i hlt
          obtain ⟨yi, hyi⟩ : ∃ y, y = nth Y i := ⟨_, rfl⟩
          rw [← hyi] at c0 gi
          unfold gvT at gi
          by_cases hlo : i < N
          · have hdl : decide ((i : Int) < (N : Int)) = true := decide_eq_true (by omega)
            have hdm : decide (i < N) = true := decide_eq_true hlo
            have hdn : decide (N ≤ i) = false := decide_eq_false (by omega)
            have hdg : decide ((N : Int) ≤ (i : Int)) = false := decide_eq_false (by omega)
            have hil : (i : Int) < (N : Int) := by omega
            obtain ⟨br, orr, rfl, hcr⟩ := (sr.below hB).cells (by rw [HR.out]; omega)
            have cr_ := hcr i (by rw [HR.out]; exact hlo)
            rw [if_pos hlo] at gi
            obtain ⟨xi, hxi⟩ : ∃ x, x = nth rs i := ⟨_, rfl⟩
            rw [← hxi] at cr_ gi
            have ex : IntKind.u8.wrap xi = yi := by rw [IntKind.wrap_u8', gi]
            have ex2 : xi % 256 = yi := gi.symm
            have ne : (yi != yi) = false := by simp
            clear hcr hxi hyi gi
            go_wp2_with fail
            go_quiet (fail)
            go_wp2_with fail
            go_roundw
            case rel => exact ⟨i + 1, by omega, by go_num, (by repeat (first | exact Dr.refl _ | apply Dr.drewN))⟩
            case measure => simp [intOf]; omega
          · have hdl : decide ((i : Int) < (N : Int)) = false := decide_eq_false (by omega)
            have hdm : decide (i < N) = false := decide_eq_false hlo
            have hdn : decide (N ≤ i) = true := decide_eq_true (by omega)
            have hdg : decide ((N : Int) ≤ (i : Int)) = true := decide_eq_true (by omega)
            have hil : ¬ (i : Int) < (N : Int) := by omega
            rw [if_neg hlo] at gi
            have w7 : IntKind.i64.wrap (7 + (i : Int)) = 7 + (i : Int) := IntWalk.i64_in _ (by omega)
            have e7 : IntKind.u8.wrap (7 + (i : Int)) = yi := by rw [IntKind.wrap_u8', gi]
            have e8 : (7 + (i : Int)) % 256 = yi := gi.symm
            have ne : (yi != yi) = false := by simp
            clear hyi gi
            go_wp2_with fail
            go_quiet (fail)
            go_wp2_with fail
            go_roundw
            case rel => exact ⟨i + 1, by omega, by go_num, (by repeat (first | exact Dr.refl _ | apply Dr.drewN))⟩
            case measure => simp [intOf]; omega
        · obtain rfl : i = N + 6 := by omega
          have hd : decide (((N + 6 : Nat) : Int) < ((N + 6 : Nat) : Int)) = false := by simp
          have hb := below_drewN rf nd
          obtain ⟨w21, hw_⟩ : ∃ x, x = w20.drewN nd := ⟨_, rfl⟩
          rw [← hw_] at hb ⊢
          clear hw_ rf
          have z21 := hb.size
          replace m := m.keep hb
          replace g := g.keep hb
          replace mm := mm.keep hb
          replace gg := gg.keep hb
          replace y := y.keep hb
          replace v := v.keep hb
          replace yy := yy.keep hb
          replace vw := vw.keep hb
          replace hB := hB.trans (hb.mono hB.size)
          replace kg := kg.kp hb
          clear hb
          obtain ⟨amm, cmm, rfl, -⟩ := mm.sl
          obtain ⟨agg, cgg, rfl, -⟩ := gg.sl
          obtain ⟨ayy, cyy, rfl, -⟩ := yy.sl
          obtain ⟨avw, cvw, rfl, -⟩ := vw.sl
          rw [← Lzs_.out] at mm
          rw [← Lfs_.out] at gg
          rw [← Lbs_.out] at yy
          rw [← Lfl_.out] at vw
          rw [← Lzs_.out, ← Lfs_.out, ← Lbs_.out, ← Lfl_.out]
          have sm : Sl .u32 w21 am cm zs := by
            obtain ⟨a2, c2, hv, s2⟩ := m.sl
            simp only [Value.slice.injEq] at hv
            obtain ⟨rfl, -, rfl⟩ := hv
            exact s2
          have smm : Sl .u32 w21 amm cmm zs := by
            obtain ⟨a2, c2, hv, s2⟩ := mm.sl
            simp only [Value.slice.injEq] at hv
            obtain ⟨rfl, -, rfl⟩ := hv
            exact s2
          have h_ := Cmp_eq _ _ _ _ zs zs _ sm smm uz uz rfl
          unfold CmpPost at h_
          rw [← Lzs_.out] at h_
          clear sm smm
          go_wp2_with fail
          refine (h_).mono ?_; rintro e_ w22 ⟨rfl, hd_⟩
          have hb := Dr.bl hd_
          clear hd_ h_
          have z22 := hb.size
          replace m := m.keep hb
          replace g := g.keep hb
          replace mm := mm.keep hb
          replace gg := gg.keep hb
          replace y := y.keep hb
          replace v := v.keep hb
          replace yy := yy.keep hb
          replace vw := vw.keep hb
          replace hB := hB.trans (hb.mono hB.size)
          replace kg := kg.kp hb
          clear hb
          have sg : Sl .u32 w22 ag cg fs := by
            obtain ⟨a2, c2, hv, s2⟩ := g.sl
            simp only [Value.slice.injEq] at hv
            obtain ⟨rfl, -, rfl⟩ := hv
            exact s2
          have sgg : Sl .u32 w22 agg cgg fs := by
            obtain ⟨a2, c2, hv, s2⟩ := gg.sl
            simp only [Value.slice.injEq] at hv
            obtain ⟨rfl, -, rfl⟩ := hv
            exact s2
          have h_ := Cmp_eq _ _ _ _ fs fs _ sg sgg uf uf rfl
          unfold CmpPost at h_
          rw [← Lfs_.out] at h_
          clear sg sgg
          go_wp2_with fail
          refine (h_).mono ?_; rintro e_ w23 ⟨rfl, hd_⟩
          have hb := Dr.bl hd_
          clear hd_ h_
          have z23 := hb.size
          replace m := m.keep hb
          replace g := g.keep hb
          replace mm := mm.keep hb
          replace gg := gg.keep hb
          replace y := y.keep hb
          replace v := v.keep hb
          replace yy := yy.keep hb
          replace vw := vw.keep hb
          replace hB := hB.trans (hb.mono hB.size)
          replace kg := kg.kp hb
          clear hb
          have sy : Sl .u8 w23 ay cy bs := by
            obtain ⟨a2, c2, hv, s2⟩ := y.sl
            simp only [Value.slice.injEq] at hv
            obtain ⟨rfl, -, rfl⟩ := hv
            exact s2
          have syy : Sl .u8 w23 ayy cyy bs := by
            obtain ⟨a2, c2, hv, s2⟩ := yy.sl
            simp only [Value.slice.injEq] at hv
            obtain ⟨rfl, -, rfl⟩ := hv
            exact s2
          have h_ := sameBytes_c _ _ _ _ bs bs _ sy syy
          unfold BoolPost at h_
          rw [decide_eq_true rfl, ← Lbs_.out] at h_
          clear sy syy
          go_wp2_with fail
          refine (h_).mono ?_; rintro e_ w24 ⟨rfl, hd_⟩
          have hb := Dr.bl hd_
          clear hd_ h_
          have z24 := hb.size
          replace m := m.keep hb
          replace g := g.keep hb
          replace mm := mm.keep hb
          replace gg := gg.keep hb
          replace y := y.keep hb
          replace v := v.keep hb
          replace yy := yy.keep hb
          replace vw := vw.keep hb
          replace hB := hB.trans (hb.mono hB.size)
          replace kg := kg.kp hb
          clear hb
          have sv : Sl .u8 w24 av cv fl := by
            obtain ⟨a2, c2, hv, s2⟩ := v.sl
            simp only [Value.slice.injEq] at hv
            obtain ⟨rfl, -, rfl⟩ := hv
            exact s2
          have svw : Sl .u8 w24 avw cvw fl := by
            obtain ⟨a2, c2, hv, s2⟩ := vw.sl
            simp only [Value.slice.injEq] at hv
            obtain ⟨rfl, -, rfl⟩ := hv
            exact s2
          have h_ := sameBytes_c _ _ _ _ fl fl _ sv svw
          unfold BoolPost at h_
          rw [decide_eq_true rfl, ← Lfl_.out] at h_
          clear sv svw
          go_wp2_with fail
          refine (h_).mono ?_; rintro e_ w25 ⟨rfl, hd_⟩
          have hb := Dr.bl hd_
          clear hd_ h_
          have z25 := hb.size
          replace m := m.keep hb
          replace g := g.keep hb
          replace mm := mm.keep hb
          replace gg := gg.keep hb
          replace y := y.keep hb
          replace v := v.keep hb
          replace yy := yy.keep hb
          replace vw := vw.keep hb
          replace hB := hB.trans (hb.mono hB.size)
          replace kg := kg.kp hb
          clear hb
          clear g gg y yy v vw
          have hYY : Hid (Y.length = N + 6 ∧ U8 Y) := Lib.hid ⟨hY.out.1, hY.out.2.1⟩
          have rfg := Below.refl w2.heap.size w25
          have zc : w2.heap.size ≤ w25.heap.size := by omega
          go_wp2_with fail
          go_loopw [23] (fun t wr => ∃ (i : Nat) (Y : List Int), i ≤ N ∧ t = .int .i64 (i : Int) ∧ Blk wr G .u8 5 Y ∧ Hid (Y.length = N + 6 ∧ U8 Y) ∧ New w2.heap.size .u32 25 wr (.slice am lzs_ cm) zs ∧ New w2.heap.size .u32 25 wr (.slice amm lzs_ cmm) zs ∧ Below w.heap.size w wr) (fun t _ => N - (intOf t).toNat)
          case atStart => exact ⟨0, Y, by omega, rfl, kg, hYY, m, mm, hB⟩
          case round =>
            clear kg hYY m mm hB rfg hY FB lT
            obtain ⟨i, Y, hi, rfl, kg, hYY, m, mm, hB⟩ := hrel
            by_cases hlt : i < N
            · have hd : decide ((i : Int) < (N : Int)) = true := decide_eq_true (by omega)
              have hil : (i : Int) < (N : Int) := by omega
              have c0 := kg.cell i (by rw [hYY.out.1]; omega)
              have f0 := kg.free i
              have ry := hYY.out.2 i
              obtain ⟨yi, hyi⟩ : ∃ y, y = nth Y i := ⟨_, rfl⟩
              rw [← hyi] at c0 ry
              obtain ⟨b7, hb7⟩ : ∃ b, b = (yi + 1) % 256 := ⟨_, rfl⟩
              have e7 : IntKind.u8.wrap (yi + 1) = b7 := by rw [IntKind.wrap_u8', hb7]
              have e8 : (yi + 1) % 256 = b7 := hb7.symm
              have r7 : 0 ≤ b7 ∧ b7 ≤ 255 := by omega
              have kg' := kg.set i b7
              have hYY' : Hid ((Y.set i b7).length = N + 6 ∧ U8 (Y.set i b7)) := Lib.hid ⟨by rw [List.length_set]; exact hYY.out.1, hYY.out.2.set i r7.1 r7.2⟩
              have hgs := grownBy_set wr ⟨G, i, none⟩ (.int .u8 b7)
              have m' := m.kept hgs (by
                cases hv : (Value.slice am lzs_ cm).ownBlock with
                | none => exact .inl rfl
                | some q => exact .inr (fun e => by have := (m.lt q hv).1; have := Option.some.inj e; simp only at this; omega))
              have mm' := mm.kept hgs (by
                cases hv : (Value.slice amm lzs_ cmm).ownBlock with
                | none => exact .inl rfl
                | some q => exact .inr (fun e => by have := (mm.lt q hv).1; have := Option.some.inj e; simp only at this; omega))
              have hB' := hB.setCell (p := ⟨G, i, none⟩) hge (.int .u8 b7)
              clear hb7 hyi kg hYY m mm hB hgs
              go_wp2_with fail
              go_roundw
              case rel => exact ⟨i + 1, _, by omega, by go_num, kg', hYY', m', mm', hB'⟩
              case measure => simp [intOf]; omega
            · obtain rfl : i = N := by omega
              have hd : decide ((i : Int) < (i : Int)) = false := by simp
              obtain ⟨x0, rfl⟩ : ∃ x, x = wr := ⟨_, rfl⟩
              have lT : Hid ((Y.take i).length = i) := Lib.hid (by rw [List.length_take, hYY.out.1]; omega)
              obtain ⟨T, hT⟩ : ∃ T, T = Y.take i := ⟨_, rfl⟩
              rw [← hT] at lT
              have uT : U8 T := by rw [hT]; exact hYY.out.2.take (by omega) i
              have sT : Sl .u8 x0 (some ⟨G, 0, none⟩) (i + 6) T := by rw [hT]; exact kg.sl i (i + 6) (by omega) (by omega)
              have FB := fun (W : World) (a : Option Addr) (c : Nat) (s : Sl .u8 W a c T) => FromBytes_c a c T W s uT (by rw [lT.out]; omega)
              rw [lT.out] at FB
              obtain ⟨p, hp⟩ : ∃ p, p = bval T := ⟨_, rfl⟩
              rw [← hp] at FB
              unfold NatPost at FB
              clear hT hp hYY kg
              go_wp2_with (at_builtin; refine wpList_append_new _ rfl _ _ 44 rfl x0.heap.size 5 .u8 1 Try.underlying44 info8a _ [] rfl (New.nil _ _ _ _) _ _ _ T rfl lT.out.symm sT.cells (by rw [lT.out]; simp; omega) (by rw [lT.out]; simp; omega) (Nat.le_refl _) ?_)
              intro vc x1 nc hg_ _
              replace nc : New x0.heap.size .u8 5 x1 vc T := nc
              have hb : Below x0.heap.size x0 x1 := (Below.refl _ _).grown hg_ (Nat.le_refl _) (fun g hg => by simp [Value.ownBlock] at hg)
              replace sT := sT.below hb
              replace m := m.keep hb
              replace mm := mm.keep hb
              replace hB := hB.trans (hb.mono hB.size)
              obtain ⟨ac, cc, rfl, sc⟩ := nc.sl
              rw [lT.out]
              clear hg_ hb nc
              go_wp2_with fail
              refine (FB _ _ _ sT).mono ?_; rintro e_ x2 ⟨v1, rfl, ⟨q1, r1, d1, d2, d3⟩, hb⟩
              replace sc := sc.below hb
              replace m := m.keep hb
              replace mm := mm.keep hb
              replace hB := hB.trans (hb.mono hB.size)
              clear hb sT
              go_wp2_with fail
              refine (FB _ _ _ sc).mono ?_; rintro e_ x3 ⟨v2, rfl, ⟨q2, r2, d4, d5, d6⟩, hb⟩
              replace r1 := r1.keep hb
              replace m := m.keep hb
              replace mm := mm.keep hb
              replace hB := hB.trans (hb.mono hB.size)
              obtain rfl : q1 = q2 := d1.ext d4 d2 d5 (d3.trans d6.symm)
              obtain ⟨b1, k1, rfl, t1⟩ := r1.sl
              obtain ⟨b2, k2, rfl, t2⟩ := r2.sl
              clear hb sc FB r1 r2 d1 d3 d4 d6
              have h1 := Cmp_eq _ _ _ _ q1 q1 _ t1 t2 d2 d5 rfl
              unfold CmpPost at h1
              obtain ⟨lq, hlq⟩ : ∃ l, l = q1.length := ⟨_, rfl⟩
              rw [← hlq] at h1 ⊢
              clear hlq t1 t2
              go_wp2_with fail
              refine h1.mono ?_; rintro e_ x4 ⟨rfl, hd_⟩
              have hb := Dr.bl hd_
              replace m := m.keep hb
              replace mm := mm.keep hb
              replace hB := hB.trans (hb.mono hB.size)
              obtain ⟨_, _, e1, s1⟩ := m.sl
              obtain ⟨_, _, e2, s2⟩ := mm.sl
              simp only [Value.slice.injEq] at e1 e2
              obtain ⟨rfl, -, rfl⟩ := e1
              obtain ⟨rfl, -, rfl⟩ := e2
              have h2 := Cmp_eq _ _ _ _ zs zs _ s1 s2 uz uz rfl
              unfold CmpPost at h2
              rw [← Lzs_.out] at h2
              clear h1 hd_ hb s1 s2 m mm
              go_wp2_with fail
              refine h2.mono ?_; rintro e_ x5 ⟨rfl, hd_⟩
              have hb := Dr.bl hd_
              replace hB := hB.trans (hb.mono hB.size)
              clear h2 hd_ hb
              go_wp2_with fail
              go_ret
              exact ⟨by first | done | rfl | simp, hB⟩
end Go.Proofs.Ytnlmkikaaifcmaa
