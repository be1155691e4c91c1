import Derived.Test.YtmbifokiebjmmaaDoorZ22
/- signetlaw36.LogRoots by its contract. (Printed by gen_logroots.py.) -/
set_option linter.unusedVariables false
set_option linter.unusedSimpArgs false
namespace Go.Sg
open Go.RowKit
theorem Lists.one {B : Nat} {E T : TypeId} {w : World} {v : Value} {xs : List Int} (h : New B .u8 E w v xs) (hB : B ≤ w.heap.size) : Lists B .u8 E T (w.alloc (.cells #[v] T)) (.slice (some ⟨w.heap.size, 0, none⟩) 1 1) 1 (fun _ => v) (fun _ => xs) :=
  ⟨.one v hB, fun i hi => h.alloc _, fun i j hi hj hne => absurd (show i = j by omega) hne⟩
theorem Lists.keepRow {B n : Nat} {E T : TypeId} {w w' : World} {l : Value} {V : Nat → Value} {A : Nat → List Int} {row : Option Nat} (h : Lists B .u8 E T w l n V A) (hg : w.grownBy w' row) (h1 : ∀ g, some g = row → l.ownBlock ≠ some g) (h2 : ∀ i, i < n → ∀ g, (V i).ownBlock = some g → some g ≠ row) : Lists B .u8 E T w' l n V A :=
  ⟨h.row.kept hg (by
    cases hl : l.ownBlock with
    | none => exact .inl rfl
    | some g => exact .inr fun e => h1 g e hl), h.fam.grown hg h2⟩
theorem ss_one (w : World) (E : TypeId) (x : List Int) (ux : U8 x) : Ss (w.alloc (.cells #[str x] E)) (some ⟨w.heap.size, 0, none⟩) 1 [x] := by
  refine ⟨fun s hs => (by simp only [List.mem_singleton] at hs; rw [hs]; exact ux), by simp, by omega, fun _ => ⟨w.heap.size, 0, rfl, fun j hj => ?_⟩⟩
  obtain rfl : j = 0 := by simpa using hj
  rw [Nat.zero_add, cell_of_row (w.alloc (.cells #[str x] E)) w.heap.size 0 _ E (0, 0) (Go.heap_alloc_new w _)]
  rfl
end Go.Sg
namespace Go.Proofs.YtmbifokiebjmmaaDoor
open Go.RowKit Go.Sg
theorem cutB_one (W : World) (g n cap i : Nat) (hi : i < n) (hn : n ≤ cap) : (Instr.sliceAt 23 (.slice (some ⟨g, 0, none⟩) n cap) (some (.int .i64 (i : Int))) (some (.int .i64 ((i : Int) + 1))) none).run Tryd.prog W = .ok (.slice (some ⟨g, i, none⟩) 1 (cap - i)) W := by
  have := run_mid (P := Tryd.prog) W 23 25 Tryd.underlying23 (by kernel_rfl) (some ⟨g, 0, none⟩) n cap i (i + 1) (by omega) (by omega) (i : Int) ((i : Int) + 1) rfl (by omega)
  rw [this]
  rw [if_neg (by omega), show i + 1 - i = 1 by omega]
  simp [Addr.add]
  exact fun h => h.symm
set_option maxHeartbeats 16000000 in
set_option maxRecDepth 100000 in
theorem LogRoots_c (A : Option Addr) (ca : Nat) (p : List (List Int)) (w : World) (sp : Ss w A ca p) (hz : tot p + p.length ≤ 1048576) (ht : ShaTabs w) (hr : RefTabs w) :
    Calls Tryd.prog 3 #[.slice A p.length ca] w (TruePost w) := by
  have tp : ∀ s ∈ p, s.length ≤ 1048576 := fun s hs => by have := tot_le s hs; omega
  have up := sp.u8
  obtain ⟨n, hn⟩ : ∃ n, n = p.length := ⟨_, rfl⟩
  have HN := Lib.hid hn
  have hnz : n ≤ 1048576 := by omega
  have cl := lists_c A ca p w sp (fun s hs => by have := tp s hs; omega) (by omega)
  unfold ListsPost at cl
  have rl := fun (W : World) (M : Option Addr) (cM : Nat) (x : List (List Int)) (hx : Ss W M cM x) (l : x.length = n) (lx : ∀ s ∈ x, s.length ≤ 1048576) (hb : Below w.heap.size w W) =>
    (show Calls Tryd.prog 14 #[.slice M n cM] W (StrsPost (hsh x) W) by
      have := rLeaves_c M cM x W hx (fun s hs => by have := lx s hs; omega) (by omega) (hr.below hb)
      rwa [l] at this)
  have rr := fun (W : World) (M : Option Addr) (cM : Nat) (x : List (List Int)) (hx : Ss W M cM (hsh x)) (l : x.length = n) (hb : Below w.heap.size w W) =>
    (show Calls Tryd.prog 13 #[.slice M n cM] W (StrPost (rootB (hsh x)) W) by
      have := rRoot_c M cM (hsh x) W hx (hsh_dig x) (by rw [hsh_len]; omega) (hr.below hb)
      rwa [hsh_len, l] at this)
  unfold StrsPost at rl
  rw [← hn] at cl ⊢
  clear hn hz
  go_enter Tryd.func3, Tryd.ntmps3
  go_wp2_with fail
  refine cl.mono ?_; rintro e_ w1 ⟨v1, G, rfl, hmB, hb1⟩
  obtain ⟨L, cL, rfl⟩ := hmB.sl
  rw [← HN.out] at hmB ⊢
  have c1 := rootM HN.out hmB up tp hnz (ht.below hb1)
  unfold BytesPost at c1
  -- what came first lies under S
  obtain ⟨S, hS⟩ : ∃ S, S = w1.heap.size := ⟨_, rfl⟩
  have LOW : Hid ((∀ c, (Value.slice L n cL).ownBlock = some c → c < S) ∧ (∀ j, j < p.length → G j < S)) := Lib.hid ⟨fun c hc => by rw [hS]; exact (hmB.row.lt c hc).2, fun j hj => by rw [hS]; exact (hmB.blk j hj).2.lt⟩
  have wS : w.heap.size ≤ S := by rw [hS]; exact hb1.size
  have S1 : S ≤ w1.heap.size := Nat.le_of_eq hS
  obtain ⟨rt, hrt⟩ : ∃ r, r = rootB (hsh p) := ⟨_, rfl⟩
  have HRT := Lib.hid hrt
  have drt : Dig rt := by rw [hrt]; exact root_dig _ _ _ (hsh_dig p)
  rw [← hrt] at c1
  clear cl hS hrt
  go_wp2_with fail
  refine c1.mono ?_; rintro e_ w2 ⟨vr, rfl, nr, hb2⟩
  have hB2 := hb1.trans (hb2.mono hb1.size)
  have hm2 := hmB.keep hb2
  have S2 : S ≤ w2.heap.size := Nat.le_trans S1 hb2.size
  have c2 := rootM HN.out hm2 up tp hnz (ht.below hB2)
  unfold BytesPost at c2
  rw [← HRT.out] at c2
  replace nr := nr.mono S1
  have NR := Lib.hid nr.lt
  clear c1 hb2 hb1 hmB
  go_wp2_with fail
  refine c2.mono ?_; rintro e_ w3 ⟨vq, rfl, nq, hb3⟩
  have hB3 := hB2.trans (hb3.mono hB2.size)
  have hm3 := hm2.keep hb3
  have S3 : S ≤ w3.heap.size := Nat.le_trans S2 hb3.size
  have nr3 := nr.keep hb3
  have RQ : Hid (∀ g, vr.ownBlock = some g → vq.ownBlock ≠ some g) := Lib.hid fun g h1 h2 => by
    have := (NR.out g h1).2
    have := (nq.lt g h2).1
    omega
  replace nq := nq.mono S2
  have c3 := rl w3 A ca p (sp.below hB3) HN.out.symm tp hB3
  clear c2 hb3 hB2 hm2 nr NR
  go_wp2_with fail
  refine c3.mono ?_; rintro e_ w4 ⟨v4, rfl, hv4, hb4⟩
  obtain ⟨a4, k4, rfl, s4⟩ := hv4.ss (hsh_u8 p)
  have hB4 := hB3.trans (hb4.mono hB3.size)
  have c4 := rr w4 a4 k4 p s4 HN.out.symm hB4
  rw [hsh_len, ← HN.out]
  have BB4 : Hid (Below w3.heap.size w3 w4) := Lib.hid hb4
  clear c3 hb4 hB3 hv4 s4
  go_wp2_with fail
  refine c4.mono ?_; rintro e_ w5 ⟨rfl, hb5⟩
  have hB5 := hB4.trans (hb5.mono hB4.size)
  rw [← HRT.out]
  have al := (Below.refl w5.heap.size w5).alloc (Nat.le_refl _) (.cells #[str rt] 9)
  have hB6 := hB5.trans (al.mono hB5.size)
  have BB6 := (BB4.out.trans (hb5.mono BB4.out.size)).trans (al.mono (Nat.le_trans BB4.out.size hb5.size))
  have s6 := ss_one w5 9 rt drt.2
  have hm6 := hm3.keep BB6
  have nr6 := nr3.keep BB6
  have nq6 := nq.keep BB6
  have c5 := keptM HN.out hm6 (sp.below hB6) tp hnz
  have S6 : S ≤ (w5.alloc (.cells #[str rt] 9)).heap.size := Nat.le_trans S3 BB6.size
  clear c4 hb5 hB4 BB4 hB5 al BB6 hm3 nr3 nq
  go_wp2_with fail
  refine c5.mono ?_; rintro e_ w7 ⟨rfl, hb7⟩
  have hB7 := hB6.trans (hb7.mono hB6.size)
  have hm7 := hm6.keep hb7
  have nr7 := nr6.keep hb7
  have nq7 := nq6.keep hb7
  have s7 := s6.below hb7
  have S7 : S ≤ w7.heap.size := Nat.le_trans S6 hb7.size
  clear c5 hB6 hm6 nr6 nq6 s6 hb7 S6
  obtain ⟨ar, kr, rfl, -⟩ := nr7.at_own
  obtain ⟨aq, kq, rfl, -⟩ := nq7.at_own
  rw [drt.1] at nr7 nq7 RQ ⊢
  have al1 := (Below.refl w7.heap.size w7).alloc (Nat.le_refl _) (.cells #[.slice ar 32 kr] 25)
  have al2 := (Below.refl (w7.alloc (.cells #[.slice ar 32 kr] 25)).heap.size (w7.alloc (.cells #[.slice ar 32 kr] 25))).alloc (Nat.le_refl _) (.cells #[.slice aq 32 kq] 25)
  have l1 := (Lists.one (T := 25) nr7 S7).keep al2
  have l2 := Lists.one (T := 25) (nq7.alloc (.cells #[.slice ar 32 kr] 25)) (Nat.le_trans S7 al1.size)
  have al3 := al1.trans (al2.mono al1.size)
  have c6 := apart_c S 1 _ _ 1 1 _ _ _ _ [rt] _ _ _ (by omega) rfl (fun d hd => (by simp only [List.mem_singleton] at hd; rw [hd]; exact drt)) l1 l2 (fun j hj => by obtain rfl : j = 0 := (by omega); rfl) (fun j hj => by obtain rfl : j = 0 := (by omega); rfl) (fun i j _ _ g h1 h2 => RQ.out g h1 h2) (fun g h1 h2 => by
    have e1 : w7.heap.size = g := Option.some.inj h1
    have e2 : (w7.alloc (.cells #[.slice ar 32 kr] 25)).heap.size = g := Option.some.inj h2
    rw [← e1] at e2
    simp at e2) (Nat.le_trans S7 al3.size) (s7.below al3)
  have hB8 := hB7.trans (al3.mono hB7.size)
  have S8 := Nat.le_trans S7 al3.size
  have hm8 := hm7.keep al3
  have as1 : (w7.alloc (.cells #[.slice ar 32 kr] 25)).heap.size = w7.heap.size + 1 := by simp
  rw [as1] at c6
  clear al1 al2 al3 l1 l2 nr7 nq7 RQ hB7 hm7 s7 S7
  go_wp2_with fail
  refine c6.mono ?_; rintro e_ w9 ⟨rfl, hb9⟩
  have hB9 := hB8.trans (hb9.mono wS)
  have hm9 := MkL.far hm8 hb9 LOW.out.1 LOW.out.2
  have S9 : S ≤ w9.heap.size := Nat.le_trans S8 hb9.size
  clear c6 hb9 hB8 hm8 S8 as1
  go_wp2_with fail
  have D0 : Hid (∀ i j : Nat, i < 0 → j < 0 → ∀ g, (Value.slice none 0 0).ownBlock = some g → (Value.slice none 0 0).ownBlock ≠ some g) := Lib.hid (fun i j h => by omega)
  go_loopw [7, 8, 9] (fun l m t wr => ∃ (k : Nat) (V U : Nat → Value) (AV AU : Nat → List Int), k ≤ n ∧ t = .int .i64 (k : Int) ∧ Lists S .u8 5 25 wr l k V AV ∧ Lists S .u8 5 25 wr m k U AU ∧ Hid ((∀ j, j < k → AV j = (hsh p).getD j []) ∧ (∀ j, j < k → AU j = (hsh p).getD j []) ∧ (∀ i j, i < k → j < k → ∀ g, (V i).ownBlock = some g → (U j).ownBlock ≠ some g) ∧ (∀ g, l.ownBlock = some g → m.ownBlock ≠ some g)) ∧ Below S w9 wr) (fun _ _ t _ => n - (intOf t).toNat)
  case atStart => exact ⟨0, fun _ => .slice none 0 0, fun _ => .slice none 0 0, fun _ => [], fun _ => [], by omega, rfl, ⟨.nil _ _ _, .zero _ _ _ _ _ _⟩, ⟨.nil _ _ _, .zero _ _ _ _ _ _⟩, Lib.hid ⟨fun j h => by omega, fun j h => by omega, fun i j h => by omega, fun g h => by cases h⟩, .refl _ _⟩
  case round =>
    obtain ⟨k, V, U, AV, AU, hk, rfl, hL, hM, HH, hb⟩ := hrel
    have hBr := hB9.trans (hb.mono wS)
    have hmr := MkL.far hm9 hb LOW.out.1 LOW.out.2
    have Sr : S ≤ wr.heap.size := Nat.le_trans S9 hb.size
    clear D0
    by_cases hlt : k < n
    · have hd : decide ((k : Int) < (n : Int)) = true := decide_eq_true (by omega)
      have hki : (k : Int) < (n : Int) := by omega
      obtain ⟨gL, eg, gl, cell⟩ := hmr.place (i := k) (by rw [← HN.out]; exact hlt)
      cases eg
      obtain ⟨s, hs⟩ : ∃ s, s = p.getD k [] := ⟨_, rfl⟩
      have HS := Lib.hid hs.symm
      rw [← hs] at cell
      have q1 := leafM (by rw [← HN.out]; exact hlt) HS.out hmr up tp (ht.below hBr)
      unfold BytesPost at q1
      obtain ⟨z, hz⟩ : ∃ z, z = s.length := ⟨_, rfl⟩
      have HZ := Lib.hid hz
      obtain ⟨d, hd'⟩ : ∃ d, d = leafD s := ⟨_, rfl⟩
      have dd : Dig d := by rw [hd']; exact shaD_dig _
      have ED : Hid (d = (hsh p).getD k []) := Lib.hid (by
        rw [hd', ← HS.out]
        unfold hsh
        rw [List.getD_eq_getElem?_getD, List.getD_eq_getElem?_getD, List.getElem?_map, List.getElem?_eq_getElem (by rw [← HN.out]; exact hlt)]
        rfl)
      rw [← hd'] at q1
      rw [← hz] at cell q1
      have HD := Lib.hid hd'
      clear hs hz hd'
      go_wp2_with fail
      refine q1.mono ?_; rintro e_ w2 ⟨v1, rfl, n1, hb2⟩
      have hfr : ∀ g, v1.ownBlock = some g → wr.heap.size ≤ g := fun g hg => (n1.lt g hg).1
      have LV := Lib.hid (fun (j : Nat) (hj : j < k) (g : Nat) (hg : (V j).ownBlock = some g) => ((hL.fam.new j hj).lt g hg).2)
      have LU := Lib.hid (fun (j : Nat) (hj : j < k) (g : Nat) (hg : (U j).ownBlock = some g) => ((hM.fam.new j hj).lt g hg).2)
      have LM := Lib.hid (fun (g : Nat) hg => (hM.row.lt g hg).2)
      obtain ⟨V1, A1, f1, r1, a1, e1, s1, t1⟩ := hL.fam.push' (n1.mono Sr) hb2 hfr
      have N1 := Lib.hid n1.lt
      obtain ⟨av, cv, rfl, -⟩ := n1.at_own
      rw [dd.1] at r1 t1 N1 ⊢
      have al := (Below.refl w2.heap.size w2).alloc (Nat.le_refl _) (.cells #[.slice av 32 cv] 25)
      have row2 := (hL.row.keep hb2).keep al
      have f2 := f1.keep al
      have hM2 := (hM.keep hb2).keep al
      have hB2 := hb.trans ((hb2.trans (al.mono hb2.size)).mono Sr)
      have hz2 : wr.heap.size ≤ w2.heap.size := hb2.size
      have as1 : (w2.alloc (.cells #[.slice av 32 cv] 25)).heap.size = w2.heap.size + 1 := by simp
      have S2 : S ≤ w2.heap.size + 1 := by omega
      have R1 := Lib.hid r1
      have TT := Lib.hid (And.intro a1 (And.intro e1 (And.intro s1 t1)))
      have LK : Hid (((List.range k).map V).length = k) := Lib.hid (by simp)
      have lv := fun g hg => (row2.lt g hg).1
      clear q1 n1 hfr hL hM r1 a1 e1 s1 t1 f1 hb2 al hb hmr hBr cell
      go_wp2_with (at_builtin; refine wpList_append_newV _ rfl _ _ 23 rfl S 25 24 Tryd.underlying23 infoL _ _ rfl row2 _ 1 (.slice av 32 cv) ⟨_, _, _, rfl⟩ rfl (cell_new1 _ _ _ _) (by rw [LK.out]; omega) (by rw [LK.out]; omega) (by rw [as1]; exact S2) ?_)
      intro l3 w3 hv3 hg3 ho3
      have hL3 := Lists.grow row2 f2 (by decide) hv3 hg3 R1.out
      have hM3 := hM2.keepRow hg3 (fun g h1 h2 => HH.out.2.2.2 g h1.symm h2) (fun i hi g hg => row2.aside' (hM2.fam.new i hi) (by decide) g hg)
      have hB3 := hB2.grown hg3 (by rw [as1]; exact S2) lv
      have D3 : Hid (∀ g, l3.ownBlock = some g → Value.ownBlock _ ≠ some g) := Lib.hid (fun g h1 h2 => by
        rcases ho3 with h | ⟨g', h, h3⟩
        · exact HH.out.2.2.2 g (by rw [← h]; exact h1) h2
        · rw [h] at h1
          cases h1
          have := LM.out g h2
          omega)
      have hz3 : w2.heap.size + 1 ≤ w3.heap.size := by have := hg3.size; rw [as1] at this; exact this
      have hB3w := hB9.trans (hB3.mono wS)
      have hm3 := MkL.far hm9 hB3 LOW.out.1 LOW.out.2
      obtain ⟨_, eg, gl3, cell3⟩ := hm3.place (i := k) (by rw [← HN.out]; exact hlt)
      cases eg
      rw [HS.out, ← HZ.out] at cell3
      have q2 := leafM (by rw [← HN.out]; exact hlt) HS.out hm3 up tp (ht.below hB3w)
      unfold BytesPost at q2
      rw [← HD.out, ← HZ.out] at q2
      have S3 : S ≤ w3.heap.size := by omega
      clear row2 f2 hv3 hg3 ho3 hM2 hB2 lv as1 R1 LK
      go_wp2_with fail
      refine q2.mono ?_; rintro e_ w4 ⟨v2, rfl, n2, hb4⟩
      have hfr : ∀ g, v2.ownBlock = some g → w3.heap.size ≤ g := fun g hg => (n2.lt g hg).1
      obtain ⟨U1, C1, f1, r1, a1, e1, s1, t1⟩ := hM3.fam.push' (n2.mono S3) hb4 hfr
      have N2 := Lib.hid n2.lt
      obtain ⟨au, cu, rfl, -⟩ := n2.at_own
      rw [dd.1] at r1 t1 N2 ⊢
      have al := (Below.refl w4.heap.size w4).alloc (Nat.le_refl _) (.cells #[.slice au 32 cu] 25)
      have row4 := (hM3.row.keep hb4).keep al
      have f4 := f1.keep al
      have hL4 := (hL3.keep hb4).keep al
      have hB4 := hB3.trans ((hb4.trans (al.mono hb4.size)).mono S3)
      have hz4 : w3.heap.size ≤ w4.heap.size := hb4.size
      have as2 : (w4.alloc (.cells #[.slice au 32 cu] 25)).heap.size = w4.heap.size + 1 := by simp
      have S4 : S ≤ w4.heap.size + 1 := by omega
      have R2 := Lib.hid r1
      have TU := Lib.hid (And.intro a1 (And.intro e1 (And.intro s1 t1)))
      have LK : Hid (((List.range k).map U).length = k) := Lib.hid (by simp)
      have LL := Lib.hid (fun (g : Nat) hg => (hL3.row.lt g hg).2)
      have lv := fun g hg => (row4.lt g hg).1
      clear q2 n2 hfr hL3 hM3 r1 a1 e1 s1 t1 f1 hb4 al hB3 hm3 hB3w cell3
      go_wp2_with (at_builtin; refine wpList_append_newV _ rfl _ _ 23 rfl S 25 24 Tryd.underlying23 infoL _ _ rfl row4 _ 1 (.slice au 32 cu) ⟨_, _, _, rfl⟩ rfl (cell_new1 _ _ _ _) (by rw [LK.out]; omega) (by rw [LK.out]; omega) (by rw [as2]; exact S4) ?_)
      intro m5 w5 hv5 hg5 ho5
      have hM5 := Lists.grow row4 f4 (by decide) hv5 hg5 R2.out
      have hL5 := hL4.keepRow hg5 (fun g h1 h2 => D3.out g h2 h1.symm) (fun i hi g hg => row4.aside' (hL4.fam.new i hi) (by decide) g hg)
      have hB5 := hB4.grown hg5 (by rw [as2]; exact S4) lv
      have D5 : Hid (∀ g, l3.ownBlock = some g → m5.ownBlock ≠ some g) := Lib.hid (fun g h1 h2 => by
        rcases ho5 with h | ⟨g', h, h3⟩
        · exact D3.out g h1 (h.symm.trans h2)
        · rw [h] at h2
          cases h2
          have := LL.out g h1
          omega)
      have HH5 : Hid ((∀ j, j < k + 1 → A1 j = (hsh p).getD j []) ∧ (∀ j, j < k + 1 → C1 j = (hsh p).getD j []) ∧ (∀ i j, i < k + 1 → j < k + 1 → ∀ g, (V1 i).ownBlock = some g → (U1 j).ownBlock ≠ some g) ∧ (∀ g, l3.ownBlock = some g → m5.ownBlock ≠ some g)) := Lib.hid (by
        obtain ⟨a1, e1, s1, t1⟩ := TT.out
        obtain ⟨b1, f1, y1, z1⟩ := TU.out
        refine ⟨fun j hj => ?_, fun j hj => ?_, fun i j hi hj g h1 h2 => ?_, D5.out⟩
        · by_cases c : j < k
          · rw [a1 j c]; exact HH.out.1 j c
          · obtain rfl : j = k := by omega
            rw [e1]; exact ED.out
        · by_cases c : j < k
          · rw [b1 j c]; exact HH.out.2.1 j c
          · obtain rfl : j = k := by omega
            rw [f1]; exact ED.out
        · by_cases c : i < k
          · rw [s1 i c] at h1
            by_cases c2 : j < k
            · rw [y1 j c2] at h2
              exact HH.out.2.2.1 i j c c2 g h1 h2
            · obtain rfl : j = k := by omega
              rw [z1] at h2
              have := LV.out i c g h1
              have := (N2.out g h2).1
              omega
          · obtain rfl : i = k := by omega
            rw [t1] at h1
            have hh := N1.out g h1
            by_cases c2 : j < i
            · rw [y1 j c2] at h2
              have := LU.out j c2 g h2
              omega
            · obtain rfl : j = i := by omega
              rw [z1] at h2
              have := (N2.out g h2).1
              omega)
      clear row4 f4 hv5 hg5 ho5 hL4 hB4 lv as2 R2 LK
      go_wp2_with fail
      go_roundw
      case rel => exact ⟨k + 1, V1, U1, A1, C1, by omega, by go_num, hL5, hM5, HH5, hB5⟩
      case measure => simp [intOf]; omega
    · obtain rfl : k = n := by omega
      have hd : decide ((k : Int) < (k : Int)) = false := by simp
      obtain ⟨al_, cl_, rfl⟩ := hL.sl
      obtain ⟨am_, cm_, rfl⟩ := hM.sl
      obtain ⟨wa, rfl⟩ : ∃ x, x = wr := ⟨_, rfl⟩
      have c7 := keptM HN.out hmr (sp.below hBr) tp hnz
      clear hb hB9 hm9 S9 hlt hk
      go_wp2_with fail
      refine c7.mono ?_; rintro e_ wb ⟨rfl, hbb⟩
      have hBb := hBr.trans (hbb.mono hBr.size)
      have hmb := hmr.keep hbb
      have hLb := hL.keep hbb
      have hMb := hM.keep hbb
      have Sb : S ≤ wb.heap.size := Nat.le_trans Sr hbb.size
      have c8 := rl wb A ca p (sp.below hBb) HN.out.symm tp hBb
      clear c7 hBr hmr hL hM hbb Sr
      go_wp2_with fail
      refine c8.mono ?_; rintro e_ wc ⟨vc, rfl, hvc, hbc⟩
      obtain ⟨a4, k4, rfl, s4⟩ := hvc.ss (hsh_u8 p)
      have hBc := hBb.trans (hbc.mono hBb.size)
      have hmc := hmb.keep hbc
      have hLc := hLb.keep hbc
      have hMc := hMb.keep hbc
      have Sc : S ≤ wc.heap.size := Nat.le_trans Sb hbc.size
      rw [hsh_len, ← HN.out]
      have c9 := apart_c S k al_ am_ cl_ cm_ V U AV AU (hsh p) a4 k4 wc (by omega) (by rw [hsh_len, ← HN.out]) (hsh_dig p) hLc hMc HH.out.1 HH.out.2.1 HH.out.2.2.1 HH.out.2.2.2 Sc s4
      clear c8 hBb hmb hLb hMb hvc hbc Sb s4 hLc hMc
      go_wp2_with fail
      refine c9.mono ?_; rintro e_ wd ⟨rfl, hbd⟩
      have hBd := hBc.trans (hbd.mono wS)
      have hmd := MkL.far hmc hbd LOW.out.1 LOW.out.2
      have Sd : S ≤ wd.heap.size := Nat.le_trans Sc hbd.size
      have d1 := rootM HN.out hmd up tp hnz (ht.below hBd)
      unfold BytesPost at d1
      clear c9 hBc hmc hbd Sc HH
      go_wp2_with fail
      refine d1.mono ?_; rintro e_ we ⟨ve, rfl, _, hbe⟩
      have hBe := hBd.trans (hbe.mono hBd.size)
      have hme := hmd.keep hbe
      have d2 := turned36_c w.heap.size L cL G p we (by rw [← HN.out]; exact hme) up (fun s hs => by have := tp s hs; omega) (by rw [← HN.out]; omega) hBe.size
      unfold TurnedPost at d2
      rw [← HN.out] at d2
      clear d1 hBd hmd hbe Sd
      go_wp2_with fail
      refine d2.mono ?_; rintro e_ wf ⟨vf, rfl, hvf, hmf, hbf, _⟩
      obtain ⟨P, hP⟩ : ∃ P, P = turn36 p := ⟨_, rfl⟩
      have PL : P.length = k := by rw [hP, turn36_len, ← HN.out]
      have uP : ∀ s ∈ P, U8 s := by rw [hP]; exact turn36_u8 p
      have tP : ∀ s ∈ P, s.length ≤ 1048576 := by rw [hP]; exact turn36_le tp
      rw [← hP] at hvf hmf
      have hBf := hBe.trans hbf
      have HPL := Lib.hid PL
      -- the document's lists of texts lie in blocks of their own
      have OT : Hid (∀ c, vf.ownBlock = some c → ∀ j, j < P.length → G j ≠ c) := Lib.hid fun c hc j hj e => by
        have h1 := (hvf.lt c hc).1
        have h2 := (hme.blk j (by rw [← HN.out, ← PL]; exact hj)).2.lt
        omega
      have OR : Hid (∀ c, vf.ownBlock = some c → (Value.slice L k cL).ownBlock ≠ some c) := Lib.hid fun c hc e => by
        have h1 := (hvf.lt c hc).1
        have h2 := (hme.row.lt c e).2
        omega
      have hvw := hvf.mono hBe.size
      obtain ⟨aO, kO, rfl, sO⟩ := hvw.ss uP
      rw [PL] at hvw OT OR ⊢
      obtain ⟨rt2, hrt2⟩ : ∃ r, r = rootB (hsh P) := ⟨_, rfl⟩
      have drt2 : Dig rt2 := by rw [hrt2]; exact root_dig _ _ _ (hsh_dig P)
      have HR2 := Lib.hid hrt2
      have se2 := str_eq drt2.2 drt2.2
      rw [decide_eq_true (show rt2 = rt2 from rfl)] at se2
      clear d2 hBe hme hbf hvf hP PL hrt2
      go_wp2_with fail
      refine wp_region_held_drew (S := fun W => True) (by kernel_rfl) (trivial) (fun hS => ?_)
      refine wpAnyH_take (i := 0) (v := ?_) rfl (by kernel_rfl) (by kernel_rfl) (by kernel_rfl) (fun _ _ _ h => h) (Or.inl ⟨by rfl, ?_⟩) hS ?_
      rotate_left
      · intro w _; go_simp; try with_reducible rfl
      simp only [List.getElem_toArray, List.getElem_cons_zero, List.getElem_cons_succ, Act.put, List.setIfInBounds_toArray, List.set_cons_zero, List.set_cons_succ]
      refine wpAnyH_take (i := 3) (v := ?_) rfl (by kernel_rfl) (by kernel_rfl) (by kernel_rfl) (fun _ _ _ h => h) (Or.inl ⟨by rfl, ?_⟩) hS ?_
      rotate_left
      · intro w _; go_simp; try with_reducible rfl
      simp only [List.getElem_toArray, List.getElem_cons_zero, List.getElem_cons_succ, Act.put, List.setIfInBounds_toArray, List.set_cons_zero, List.set_cons_succ]
      obtain ⟨W, hW⟩ : ∃ W, W = World.drew wf := ⟨_, rfl⟩
      have hBW : Below w.heap.size w W := by rw [hW]; exact below_drewN hBf 1
      have hmW : MkW w.heap.size W (.slice L k cL) G P := by rw [hW]; exact hmf.drew
      have hvW : NewV w.heap.size 9 W (.slice aO k kO) (P.map str) := by rw [hW]; exact NewV.keep hvw (below_drewN (.refl _ _) 1)
      have sOW : Ss W aO kO P := by rw [hW]; exact sO.drewN 1
      rw [← hW]
      have q1 := rootM HPL.out.symm hmW uP tP hnz (ht.below hBW)
      unfold BytesPost at q1
      rw [← HR2.out] at q1
      clear hW hBf hmf hvw sO hS
      refine wpAnyH_ready (rs := [1]) (by kernel_rfl) (by simp) ?_
      refine AllReadyH.cons rfl (fun K hK => ?_) AllReadyH.nil
      rw [if_pos (by rfl)]
      simp only [List.getElem_toArray, List.getElem_cons_zero, List.getElem_cons_succ]
      go_simp
      refine q1.mono ?_; rintro e_ wg ⟨vr, rfl, nr, hbg⟩
      obtain ⟨ax, kx, rfl, sx⟩ := nr.sl
      rw [drt2.1]
      dsimp only
      refine hK.out _ _ trivial (fun hS => ?_)
      refine wpAnyH_mono (S' := fun V => Sl .u8 V ax kx rt2) (fun _ _ => trivial) _ _ _ _ ?_
      replace hS : Sl .u8 wg ax kx rt2 := sx
      refine wpAnyH_take (i := 2) (v := (str rt2)) rfl (by kernel_rfl) (by kernel_rfl) (by kernel_rfl) (fun _ _ _ h => h) (Or.inl ⟨by rfl, ?_⟩) hS ?_
      · intro W_ hW_; have hc_ := run_str_of (P := Tryd.prog) W_ 25 9 5 Tryd.underlying25 Tryd.underlying5 Tryd.underlying9 32 drt2.1.symm hW_; go_simp; try with_reducible rfl
      simp only [List.getElem_toArray, List.getElem_cons_zero, List.getElem_cons_succ, Act.put, List.setIfInBounds_toArray, List.set_cons_zero, List.set_cons_succ]
      have hBg := hBW.trans (hbg.mono hBW.size)
      have hmg := hmW.keep hbg
      have hvg := hvW.keep hbg
      have sOg := sOW.below hbg
      have q2 := rl wg aO kO P sOg HPL.out tP hBg
      clear q1 hBW hmW hvW sOW hbg nr sx
      refine wpAnyH_ready (rs := [4]) (by kernel_rfl) (by simp) ?_
      refine AllReadyH.cons rfl (fun K hK => ?_) AllReadyH.nil
      rw [if_pos (by rfl)]
      simp only [List.getElem_toArray, List.getElem_cons_zero, List.getElem_cons_succ]
      go_simp
      refine q2.mono ?_; rintro e_ wh ⟨vh, rfl, hvh, hbh⟩
      obtain ⟨a4, k4, rfl, s4⟩ := hvh.ss (hsh_u8 P)
      rw [hsh_len, HPL.out]
      dsimp only
      refine hK.out _ _ (Sl.below hS hbh) (fun hS => ?_)
      have hBh := hBg.trans (hbh.mono hBg.size)
      have hmh := hmg.keep hbh
      have hvh2 := hvg.keep hbh
      have q3 := rr wh a4 k4 P s4 HPL.out hBh
      rw [← HR2.out] at q3
      clear q2 hBg hmg hvg sOg hbh s4 hvh
      refine wpAnyH_ready (rs := [5]) (by kernel_rfl) (by simp) ?_
      refine AllReadyH.cons rfl (fun K hK => ?_) AllReadyH.nil
      rw [if_pos (by rfl)]
      simp only [List.getElem_toArray, List.getElem_cons_zero, List.getElem_cons_succ]
      go_simp
      refine q3.mono ?_; rintro e_ wi ⟨rfl, hbi⟩
      dsimp only
      refine hK.out _ _ (Sl.below hS hbi) (fun hS => ?_)
      refine wpAnyH_take (i := 6) (v := ?_) rfl (by kernel_rfl) (by kernel_rfl) (by kernel_rfl) (fun _ _ _ h => h) (Or.inl ⟨by rfl, ?_⟩) hS ?_
      rotate_left
      · intro w _; go_simp; try with_reducible rfl
      simp only [List.getElem_toArray, List.getElem_cons_zero, List.getElem_cons_succ, Act.put, List.setIfInBounds_toArray, List.set_cons_zero, List.set_cons_succ]
      refine wpAnyH_done (by kernel_rfl) ?_ _
      have hBi := hBh.trans (hbi.mono hBh.size)
      have hmi := hmh.keep hbi
      have hvi := hvh2.keep hbi
      have HP0 : Hid (P.length = k ∧ ∀ s ∈ P, U8 s ∧ s.length ≤ 1048576) := Lib.hid ⟨HPL.out, fun s hs => ⟨uP s hs, tP s hs⟩⟩
      clear q3 hS hBh hmh hvh2 hbi HR2 se2 drt2 uP tP HRT drt up tp rl rr LOW
      go_wp2_with fail
      go_loopw [11] (fun t wr => ∃ (i : Nat) (O : List (List Int)), i ≤ k ∧ t = .int .i64 (i : Int) ∧ Hid (O.length = k ∧ ∀ s ∈ O, U8 s ∧ s.length ≤ 1048576) ∧ MkW w.heap.size wr (.slice L k cL) G O ∧ NewV w.heap.size 9 wr (.slice aO k kO) (O.map str) ∧ Below w.heap.size w wr) (fun t _ => k - (intOf t).toNat)
      case atStart => exact ⟨0, P, by omega, rfl, HP0, hmi, hvi, hBi⟩
      case round =>
        clear HP0 hmi hvi hBi hd
        obtain ⟨i, O, hi, rfl, HO, hm, hv, hB⟩ := hrel
        by_cases hlt : i < k
        · have hd : decide ((i : Int) < (k : Int)) = true := decide_eq_true (by omega)
          have hki : (i : Int) < (k : Int) := by omega
          have hiO : Hid (i < O.length) := Lib.hid (by rw [HO.out.1]; exact hlt)
          obtain ⟨gL, eg, gl, cell⟩ := hm.place (i := i) hiO.out
          cases eg
          obtain ⟨s, hs⟩ : ∃ s, s = O.getD i [] := ⟨_, rfl⟩
          have HS := Lib.hid hs.symm
          have us : U8 s ∧ s.length ≤ 1048576 := by rw [hs]; exact HO.out.2 _ (getD_mem hiO.out)
          rw [← hs] at cell
          obtain ⟨z, hz⟩ : ∃ z, z = s.length := ⟨_, rfl⟩
          have HZ := Lib.hid hz
          rw [← hz] at cell
          obtain ⟨gO, eO, _, cellO⟩ := hv.cell i (by rw [List.length_map]; exact hiO.out)
          subst eO
          rw [List.getElem_map, show O[i]'hiO.out = s by rw [hs, List.getD_eq_getElem?_getD, List.getElem?_eq_getElem hiO.out]; rfl] at cellO
          have glO : gO < wr.heap.size := (hv.lt gO rfl).2
          obtain ⟨lf, hlf⟩ : ∃ r, r = leafD s := ⟨_, rfl⟩
          have dlf : Dig lf := by rw [hlf]; exact shaD_dig _
          have HLF := Lib.hid hlf
          have se := str_eq dlf.2 dlf.2
          rw [decide_eq_true (show lf = lf from rfl)] at se
          have US := Lib.hid us
          clear hs hz hlf us
          go_wp2_with fail
          refine wp_region_held_drew (S := fun W => W.cell? ⟨gL, i, none⟩ = some (.slice (some ⟨G i, 0, none⟩) z (z + 70)) ∧ W.cell? ⟨gO, i, none⟩ = some (str s)) (by kernel_rfl) (⟨cell, cellO⟩) (fun hS => ?_)
          refine wpAnyH_take (i := 0) (v := ?_) rfl (by kernel_rfl) (by kernel_rfl) (by kernel_rfl) (fun _ _ _ h => h) (Or.inl ⟨by rfl, ?_⟩) hS ?_
          rotate_left
          · intro w _; go_simp; try with_reducible rfl
          simp only [List.getElem_toArray, List.getElem_cons_zero, List.getElem_cons_succ, Act.put, List.setIfInBounds_toArray, List.set_cons_zero, List.set_cons_succ]
          refine wpAnyH_take (i := 1) (v := ?_) rfl (by kernel_rfl) (by kernel_rfl) (by kernel_rfl) (fun _ _ _ h => h) (Or.inl ⟨by rfl, ?_⟩) hS ?_
          rotate_left
          · intro w _; go_simp; try with_reducible rfl
          simp only [List.getElem_toArray, List.getElem_cons_zero, List.getElem_cons_succ, Act.put, List.setIfInBounds_toArray, List.set_cons_zero, List.set_cons_succ]
          refine wpAnyH_take (i := 2) (v := ?_) rfl (by kernel_rfl) (by kernel_rfl) (by kernel_rfl) (fun _ _ _ h => h) (Or.inl ⟨by rfl, ?_⟩) hS ?_
          rotate_left
          · intro w _; go_simp; try with_reducible rfl
          simp only [List.getElem_toArray, List.getElem_cons_zero, List.getElem_cons_succ, Act.put, List.setIfInBounds_toArray, List.set_cons_zero, List.set_cons_succ]
          refine wpAnyH_take (i := 3) (v := ?_) rfl (by kernel_rfl) (by kernel_rfl) (by kernel_rfl) (fun _ _ _ h => h) (Or.inl ⟨by rfl, ?_⟩) hS ?_
          rotate_left
          · intro W_ hW_; obtain ⟨c1_, c2_⟩ := hW_; go_simp; try with_reducible rfl
          simp only [List.getElem_toArray, List.getElem_cons_zero, List.getElem_cons_succ, Act.put, List.setIfInBounds_toArray, List.set_cons_zero, List.set_cons_succ]
          refine wpAnyH_take (i := 6) (v := ?_) rfl (by kernel_rfl) (by kernel_rfl) (by kernel_rfl) (fun _ _ _ h => h) (Or.inl ⟨by rfl, ?_⟩) hS ?_
          rotate_left
          · intro w _; go_simp; try with_reducible rfl
          simp only [List.getElem_toArray, List.getElem_cons_zero, List.getElem_cons_succ, Act.put, List.setIfInBounds_toArray, List.set_cons_zero, List.set_cons_succ]
          refine wpAnyH_take (i := 7) (v := ?_) rfl (by kernel_rfl) (by kernel_rfl) (by kernel_rfl) (fun _ _ _ h => h) (Or.inl ⟨by rfl, ?_⟩) hS ?_
          rotate_left
          · intro w _; go_simp; try with_reducible rfl
          simp only [List.getElem_toArray, List.getElem_cons_zero, List.getElem_cons_succ, Act.put, List.setIfInBounds_toArray, List.set_cons_zero, List.set_cons_succ]
          refine wpAnyH_take (i := 8) (v := ?_) rfl (by kernel_rfl) (by kernel_rfl) (by kernel_rfl) (fun _ _ _ h => h) (Or.inl ⟨by rfl, ?_⟩) hS ?_
          rotate_left
          · intro w _; go_simp; try with_reducible rfl
          simp only [List.getElem_toArray, List.getElem_cons_zero, List.getElem_cons_succ, Act.put, List.setIfInBounds_toArray, List.set_cons_zero, List.set_cons_succ]
          refine wpAnyH_take (i := 9) (v := ?_) rfl (by kernel_rfl) (by kernel_rfl) (by kernel_rfl) (fun _ _ _ h => h) (Or.inl ⟨by rfl, ?_⟩) hS ?_
          rotate_left
          · intro W_ hW_; obtain ⟨c1_, c2_⟩ := hW_; go_simp; try with_reducible rfl
          simp only [List.getElem_toArray, List.getElem_cons_zero, List.getElem_cons_succ, Act.put, List.setIfInBounds_toArray, List.set_cons_zero, List.set_cons_succ]
          obtain ⟨W, hW⟩ : ∃ W, W = World.drew wr := ⟨_, rfl⟩
          have hBW : Below w.heap.size w W := by rw [hW]; exact below_drewN hB 1
          have hmW : MkW w.heap.size W (.slice (some ⟨gL, 0, none⟩) k cL) G O := by rw [hW]; exact hm.drew
          have hvW : NewV w.heap.size 9 W (.slice (some ⟨gO, 0, none⟩) k kO) (O.map str) := by rw [hW]; exact NewV.keep hv (below_drewN (.refl _ _) 1)
          have gW : gL < W.heap.size ∧ gO < W.heap.size := by rw [hW]; exact ⟨gl, glO⟩
          rw [← hW] at hS ⊢
          have KP : Hid (∀ V V' : World, gL < V.heap.size ∧ gO < V.heap.size → Below V.heap.size V V' → (V.cell? ⟨gL, i, none⟩ = some (.slice (some ⟨G i, 0, none⟩) z (z + 70)) ∧ V.cell? ⟨gO, i, none⟩ = some (str s)) → (V'.cell? ⟨gL, i, none⟩ = some (.slice (some ⟨G i, 0, none⟩) z (z + 70)) ∧ V'.cell? ⟨gO, i, none⟩ = some (str s))) := Lib.hid fun V V' hl hb h => ⟨by rw [World.cell?_of_block (w := V) (hb.block gL hl.1)]; exact h.1, by rw [World.cell?_of_block (w := V) (hb.block gO hl.2)]; exact h.2⟩
          have q1 := leafM hiO.out HS.out hmW (fun s hs => (HO.out.2 s hs).1) (fun s hs => (HO.out.2 s hs).2) (ht.below hBW)
          unfold BytesPost at q1
          rw [← HLF.out, ← HZ.out] at q1
          clear hW hB hm hv gl glO cell cellO
          refine wpAnyH_ready (rs := [4]) (by kernel_rfl) (by simp) ?_
          refine AllReadyH.cons rfl (fun K hK => ?_) AllReadyH.nil
          rw [if_pos (by rfl)]
          simp only [List.getElem_toArray, List.getElem_cons_zero, List.getElem_cons_succ]
          go_simp
          refine q1.mono ?_; rintro e_ w2 ⟨vr, rfl, nr, hb2⟩
          obtain ⟨ax, kx, rfl, sx⟩ := nr.sl
          rw [dlf.1]
          dsimp only
          refine hK.out _ _ (KP.out _ _ gW hb2 hS) (fun hS => ?_)
          refine wpAnyH_mono (S' := fun V => Sl .u8 V ax kx lf ∧ V.cell? ⟨gL, i, none⟩ = some (.slice (some ⟨G i, 0, none⟩) z (z + 70)) ∧ V.cell? ⟨gO, i, none⟩ = some (str s)) (fun _ h => h.2) _ _ _ _ ?_
          replace hS : Sl .u8 w2 ax kx lf ∧ w2.cell? ⟨gL, i, none⟩ = some (.slice (some ⟨G i, 0, none⟩) z (z + 70)) ∧ w2.cell? ⟨gO, i, none⟩ = some (str s) := ⟨sx, hS⟩
          refine wpAnyH_take (i := 5) (v := (str lf)) rfl (by kernel_rfl) (by kernel_rfl) (by kernel_rfl) (fun _ _ _ h => h) (Or.inl ⟨by rfl, ?_⟩) hS ?_
          · intro W_ hW_; have hc_ := run_str_of (P := Tryd.prog) W_ 25 9 5 Tryd.underlying25 Tryd.underlying5 Tryd.underlying9 32 dlf.1.symm hW_.1; go_simp; try with_reducible rfl
          simp only [List.getElem_toArray, List.getElem_cons_zero, List.getElem_cons_succ, Act.put, List.setIfInBounds_toArray, List.set_cons_zero, List.set_cons_succ]
          have hB2 := hBW.trans (hb2.mono hBW.size)
          have hm2 := hmW.keep hb2
          have hv2 := hvW.keep hb2
          have g2 : gL < w2.heap.size ∧ gO < w2.heap.size := ⟨Nat.lt_of_lt_of_le gW.1 hb2.size, Nat.lt_of_lt_of_le gW.2 hb2.size⟩
          have q2 := rLeaf_c s w2 US.out.1 (by have := US.out.2; omega) (hr.below hB2)
          unfold StrPost at q2
          rw [← HLF.out] at q2
          clear q1 hBW hmW hvW gW hb2 nr sx
          refine wpAnyH_ready (rs := [10]) (by kernel_rfl) (by simp) ?_
          refine AllReadyH.cons rfl (fun K hK => ?_) AllReadyH.nil
          rw [if_pos (by rfl)]
          simp only [List.getElem_toArray, List.getElem_cons_zero, List.getElem_cons_succ]
          go_simp
          refine q2.mono ?_; rintro e_ w3 ⟨rfl, hb3⟩
          dsimp only
          refine hK.out _ _ ⟨Sl.below hS.1 hb3, KP.out _ _ g2 hb3 hS.2⟩ (fun hS => ?_)
          refine wpAnyH_take (i := 11) (v := ?_) rfl (by kernel_rfl) (by kernel_rfl) (by kernel_rfl) (fun _ _ _ h => h) (Or.inl ⟨by rfl, ?_⟩) hS ?_
          rotate_left
          · intro w _; go_simp; try with_reducible rfl
          simp only [List.getElem_toArray, List.getElem_cons_zero, List.getElem_cons_succ, Act.put, List.setIfInBounds_toArray, List.set_cons_zero, List.set_cons_succ]
          refine wpAnyH_done (by kernel_rfl) ?_ _
          have hB3 := hB2.trans (hb3.mono hB2.size)
          have hm3 := hm2.keep hb3
          have hv3 := hv2.keep hb3
          have lcut := fun V => cutB_one V gL k cL i hlt (MkL.cap HO.out.1.symm hm3)
          have wS3 := hB3.size
          have q3 := turned1_c w.heap.size gL k (cL - i) cL i G O s w3 HO.out.1.symm hlt HS.out hm3 US.out.1 US.out.2 wS3
          obtain ⟨y, hy⟩ : ∃ y, y = tl36 0 s := ⟨_, rfl⟩
          have HY := Lib.hid hy
          rw [← hy] at q3
          clear q2 hB2 hm2 hv2 g2 hb3 hS KP se HLF dlf hy
          go_wp2_with fail
          refine q3.mono ?_; rintro e_ w4 ⟨va, rfl, hva, hm4, hb4, hf4⟩
          have gOl : gO < w3.heap.size := (hv3.lt gO rfl).2
          have hv4 : NewV w.heap.size 9 w4 (.slice (some ⟨gO, 0, none⟩) k kO) (O.map str) := hv3.by_blocks (fun c hc => by
            cases hc
            exact hf4.2 gO gOl (fun j _ => (OT.out gO rfl i hlt).symm))
          have hB4 := hB3.trans hb4
          have OA : Hid (∀ g, va.ownBlock = some g → w3.heap.size ≤ g) := Lib.hid fun g hg => (hva.lt g hg).1
          obtain ⟨ga, ka, rfl, cella⟩ : ∃ g c, va = .slice (some ⟨g, 0, none⟩) 1 c ∧ w4.cell? ⟨g, 0, none⟩ = some (str y) := by
            obtain ⟨aa, ka, e0⟩ := hva.sl
            rw [e0] at hva
            obtain ⟨g, e, _, c⟩ := hva.cell 0 (by simp)
            subst e
            exact ⟨g, ka, e0, c⟩
          have gal := (hva.lt ga rfl).2
          have ly : y.length = z := by rw [HY.out, tl36_len, ← HZ.out]
          have uy : U8 y := by rw [HY.out]; exact tl36_u8 _ _
          have HO4 : Hid ((O.set i y).length = k ∧ ∀ s ∈ O.set i y, U8 s ∧ s.length ≤ 1048576) := Lib.hid ⟨by rw [List.length_set]; exact HO.out.1, fun s' hs' => by
            rcases List.mem_or_eq_of_mem_set hs' with h | h
            · exact HO.out.2 s' h
            · rw [h]; exact ⟨uy, by rw [ly, HZ.out]; exact US.out.2⟩⟩
          have GE : Hid ((O.set i y).getD i [] = y) := Lib.hid (by rw [getD_set' hiO.out, if_pos rfl])
          have hiO4 : Hid (i < (O.set i y).length) := Lib.hid (by rw [List.length_set]; exact hiO.out)
          obtain ⟨_, eg, gl4, cell4⟩ := hm4.place (i := i) hiO4.out
          cases eg
          rw [GE.out, ly] at cell4
          have LY := Lib.hid ly
          obtain ⟨lf, hlf⟩ : ∃ r, r = leafD y := ⟨_, rfl⟩
          have dlf : Dig lf := by rw [hlf]; exact shaD_dig _
          have HLF := Lib.hid hlf
          have se := str_eq dlf.2 dlf.2
          rw [decide_eq_true (show lf = lf from rfl)] at se
          clear q3 lcut hf4 hb4 hB3 hm3 hv3 gOl hva ly hlf wS3
          go_wp2_with fail
          refine wp_region_held_drew (S := fun W => W.cell? ⟨gL, i, none⟩ = some (.slice (some ⟨G i, 0, none⟩) z (z + 70)) ∧ W.cell? ⟨ga, 0, none⟩ = some (str y)) (by kernel_rfl) (⟨cell4, cella⟩) (fun hS => ?_)
          refine wpAnyH_take (i := 0) (v := ?_) rfl (by kernel_rfl) (by kernel_rfl) (by kernel_rfl) (fun _ _ _ h => h) (Or.inl ⟨by rfl, ?_⟩) hS ?_
          rotate_left
          · intro w _; go_simp; try with_reducible rfl
          simp only [List.getElem_toArray, List.getElem_cons_zero, List.getElem_cons_succ, Act.put, List.setIfInBounds_toArray, List.set_cons_zero, List.set_cons_succ]
          refine wpAnyH_take (i := 1) (v := ?_) rfl (by kernel_rfl) (by kernel_rfl) (by kernel_rfl) (fun _ _ _ h => h) (Or.inl ⟨by rfl, ?_⟩) hS ?_
          rotate_left
          · intro w _; go_simp; try with_reducible rfl
          simp only [List.getElem_toArray, List.getElem_cons_zero, List.getElem_cons_succ, Act.put, List.setIfInBounds_toArray, List.set_cons_zero, List.set_cons_succ]
          refine wpAnyH_take (i := 2) (v := ?_) rfl (by kernel_rfl) (by kernel_rfl) (by kernel_rfl) (fun _ _ _ h => h) (Or.inl ⟨by rfl, ?_⟩) hS ?_
          rotate_left
          · intro w _; go_simp; try with_reducible rfl
          simp only [List.getElem_toArray, List.getElem_cons_zero, List.getElem_cons_succ, Act.put, List.setIfInBounds_toArray, List.set_cons_zero, List.set_cons_succ]
          refine wpAnyH_take (i := 3) (v := ?_) rfl (by kernel_rfl) (by kernel_rfl) (by kernel_rfl) (fun _ _ _ h => h) (Or.inl ⟨by rfl, ?_⟩) hS ?_
          rotate_left
          · intro W_ hW_; obtain ⟨c1_, c2_⟩ := hW_; go_simp; try with_reducible rfl
          simp only [List.getElem_toArray, List.getElem_cons_zero, List.getElem_cons_succ, Act.put, List.setIfInBounds_toArray, List.set_cons_zero, List.set_cons_succ]
          refine wpAnyH_take (i := 6) (v := ?_) rfl (by kernel_rfl) (by kernel_rfl) (by kernel_rfl) (fun _ _ _ h => h) (Or.inl ⟨by rfl, ?_⟩) hS ?_
          rotate_left
          · intro w _; go_simp; try with_reducible rfl
          simp only [List.getElem_toArray, List.getElem_cons_zero, List.getElem_cons_succ, Act.put, List.setIfInBounds_toArray, List.set_cons_zero, List.set_cons_succ]
          refine wpAnyH_take (i := 7) (v := ?_) rfl (by kernel_rfl) (by kernel_rfl) (by kernel_rfl) (fun _ _ _ h => h) (Or.inl ⟨by rfl, ?_⟩) hS ?_
          rotate_left
          · intro w _; go_simp; try with_reducible rfl
          simp only [List.getElem_toArray, List.getElem_cons_zero, List.getElem_cons_succ, Act.put, List.setIfInBounds_toArray, List.set_cons_zero, List.set_cons_succ]
          refine wpAnyH_take (i := 8) (v := ?_) rfl (by kernel_rfl) (by kernel_rfl) (by kernel_rfl) (fun _ _ _ h => h) (Or.inl ⟨by rfl, ?_⟩) hS ?_
          rotate_left
          · intro W_ hW_; obtain ⟨c1_, c2_⟩ := hW_; go_simp; try with_reducible rfl
          simp only [List.getElem_toArray, List.getElem_cons_zero, List.getElem_cons_succ, Act.put, List.setIfInBounds_toArray, List.set_cons_zero, List.set_cons_succ]
          obtain ⟨W, hW⟩ : ∃ W, W = World.drew w4 := ⟨_, rfl⟩
          have hBW : Below w.heap.size w W := by rw [hW]; exact below_drewN hB4 1
          have hmW : MkW w.heap.size W (.slice (some ⟨gL, 0, none⟩) k cL) G (O.set i y) := by rw [hW]; exact hm4.drew
          have hvW : NewV w.heap.size 9 W (.slice (some ⟨gO, 0, none⟩) k kO) (O.map str) := by rw [hW]; exact NewV.keep hv4 (below_drewN (.refl _ _) 1)
          have gW : gL < W.heap.size ∧ ga < W.heap.size := by rw [hW]; exact ⟨gl4, gal⟩
          rw [← hW] at hS ⊢
          have KP : Hid (∀ V V' : World, gL < V.heap.size ∧ ga < V.heap.size → Below V.heap.size V V' → (V.cell? ⟨gL, i, none⟩ = some (.slice (some ⟨G i, 0, none⟩) z (z + 70)) ∧ V.cell? ⟨ga, 0, none⟩ = some (str y)) → (V'.cell? ⟨gL, i, none⟩ = some (.slice (some ⟨G i, 0, none⟩) z (z + 70)) ∧ V'.cell? ⟨ga, 0, none⟩ = some (str y))) := Lib.hid fun V V' hl hb h => ⟨by rw [World.cell?_of_block (w := V) (hb.block gL hl.1)]; exact h.1, by rw [World.cell?_of_block (w := V) (hb.block ga hl.2)]; exact h.2⟩
          have q1 := leafM hiO4.out GE.out hmW (fun s hs => (HO4.out.2 s hs).1) (fun s hs => (HO4.out.2 s hs).2) (ht.below hBW)
          unfold BytesPost at q1
          rw [← HLF.out, LY.out] at q1
          clear hW hB4 hm4 hv4 gl4 gal cell4 cella
          refine wpAnyH_ready (rs := [4]) (by kernel_rfl) (by simp) ?_
          refine AllReadyH.cons rfl (fun K hK => ?_) AllReadyH.nil
          rw [if_pos (by rfl)]
          simp only [List.getElem_toArray, List.getElem_cons_zero, List.getElem_cons_succ]
          go_simp
          refine q1.mono ?_; rintro e_ w5 ⟨vr, rfl, nr, hb5⟩
          obtain ⟨ax, kx, rfl, sx⟩ := nr.sl
          rw [dlf.1]
          dsimp only
          refine hK.out _ _ (KP.out _ _ gW hb5 hS) (fun hS => ?_)
          refine wpAnyH_mono (S' := fun V => Sl .u8 V ax kx lf ∧ V.cell? ⟨gL, i, none⟩ = some (.slice (some ⟨G i, 0, none⟩) z (z + 70)) ∧ V.cell? ⟨ga, 0, none⟩ = some (str y)) (fun _ h => h.2) _ _ _ _ ?_
          replace hS : Sl .u8 w5 ax kx lf ∧ w5.cell? ⟨gL, i, none⟩ = some (.slice (some ⟨G i, 0, none⟩) z (z + 70)) ∧ w5.cell? ⟨ga, 0, none⟩ = some (str y) := ⟨sx, hS⟩
          refine wpAnyH_take (i := 5) (v := (str lf)) rfl (by kernel_rfl) (by kernel_rfl) (by kernel_rfl) (fun _ _ _ h => h) (Or.inl ⟨by rfl, ?_⟩) hS ?_
          · intro W_ hW_; have hc_ := run_str_of (P := Tryd.prog) W_ 25 9 5 Tryd.underlying25 Tryd.underlying5 Tryd.underlying9 32 dlf.1.symm hW_.1; go_simp; try with_reducible rfl
          simp only [List.getElem_toArray, List.getElem_cons_zero, List.getElem_cons_succ, Act.put, List.setIfInBounds_toArray, List.set_cons_zero, List.set_cons_succ]
          have hB5 := hBW.trans (hb5.mono hBW.size)
          have hm5 := hmW.keep hb5
          have hv5 := hvW.keep hb5
          have g5 : gL < w5.heap.size ∧ ga < w5.heap.size := ⟨Nat.lt_of_lt_of_le gW.1 hb5.size, Nat.lt_of_lt_of_le gW.2 hb5.size⟩
          have q2 := rLeaf_c y w5 uy (by rw [LY.out]; have := US.out.2; have := HZ.out; omega) (hr.below hB5)
          unfold StrPost at q2
          rw [← HLF.out] at q2
          clear q1 hBW hmW hvW gW hb5 nr sx
          refine wpAnyH_ready (rs := [9]) (by kernel_rfl) (by simp) ?_
          refine AllReadyH.cons rfl (fun K hK => ?_) AllReadyH.nil
          rw [if_pos (by rfl)]
          simp only [List.getElem_toArray, List.getElem_cons_zero, List.getElem_cons_succ]
          go_simp
          refine q2.mono ?_; rintro e_ w6 ⟨rfl, hb6⟩
          dsimp only
          refine hK.out _ _ ⟨Sl.below hS.1 hb6, KP.out _ _ g5 hb6 hS.2⟩ (fun hS => ?_)
          refine wpAnyH_take (i := 10) (v := ?_) rfl (by kernel_rfl) (by kernel_rfl) (by kernel_rfl) (fun _ _ _ h => h) (Or.inl ⟨by rfl, ?_⟩) hS ?_
          rotate_left
          · intro w _; go_simp; try with_reducible rfl
          simp only [List.getElem_toArray, List.getElem_cons_zero, List.getElem_cons_succ, Act.put, List.setIfInBounds_toArray, List.set_cons_zero, List.set_cons_succ]
          refine wpAnyH_done (by kernel_rfl) ?_ _
          have hB6 := hB5.trans (hb6.mono hB5.size)
          have hm6 := hm5.keep hb6
          have hv6 := hv5.keep hb6
          have ca6 := hS.2.2
          obtain ⟨_, eO, hOB, cO6⟩ := hv6.cell i (by rw [List.length_map]; exact hiO.out)
          cases eO
          obtain ⟨fr6, hv7⟩ := hv6.put i (str y)
          have hm7 := hm6.grown (grownBy_set w6 ⟨gO, i, none⟩ (str y)) (.inr fun e => OR.out gO rfl e) (fun j hj e => OT.out gO rfl j (by rw [List.length_set, HO.out.1] at hj; exact hj) (Option.some.inj e))
          have hB7 := hB6.setCell (p := ⟨gO, i, none⟩) hOB (str y)
          rw [← List.map_set] at hv7
          clear q2 hB5 hm5 hv5 g5 hb6 hS KP se HLF dlf hB6 hm6 hv6
          go_wp2_with fail
          go_roundw
          case rel => exact ⟨i + 1, O.set i y, by omega, by go_num, HO4, hm7, hv7, hB7⟩
          case measure => simp [intOf]; omega
        · obtain rfl : i = k := by omega
          have hd : decide ((i : Int) < (i : Int)) = false := by simp
          obtain ⟨aO', kO', eO, sO⟩ := hv.ss (fun s hs => (HO.out.2 s hs).1)
          simp only [Value.slice.injEq] at eO
          obtain ⟨rfl, -, rfl⟩ := eO
          have e1 := keptM HO.out.1.symm hm sO (fun s hs => (HO.out.2 s hs).2) hnz
          unfold TellPost at e1
          clear sO
          go_wp2_with fail
          refine e1.mono ?_; rintro e_ w2 ⟨rfl, hb2⟩
          clear e1
          go_wp2_with fail
          go_ret
          exact ⟨rfl, hB.trans (hb2.mono hB.size)⟩
end Go.Proofs.YtmbifokiebjmmaaDoor
