import Derived.Test.YtmbifokiebjmmaaDoorZ22
import Derived.Test.YtmbifokiebjmmaaDoorZ23
/- signetlaw36.LogGrows by its contract. (Printed by gen_logproves.py.) -/
set_option linter.unusedVariables false
set_option linter.unusedSimpArgs false
namespace Go.Proofs.YtmbifokiebjmmaaDoor
open Go.RowKit Go.Sg
set_option maxHeartbeats 16000000 in
set_option maxRecDepth 20000 in
theorem LogGrows_c (A : Option Addr) (ca : Nat) (p : List (List Int)) (i : Int) (w : World) (bi : -9223372036854775808 ≤ i ∧ i ≤ 9223372036854775807) (sp : Ss w A ca p) (hz : tot p + p.length ≤ 1048576) (ht : ShaTabs w) (hr : RefTabs w) :
    Calls Tryd.prog 9 #[.slice A p.length ca, .int .i64 i] w (TruePost w) := by
  have tp : ∀ s ∈ p, s.length ≤ 1048576 := fun s hs => by have := tot_le s hs; omega
  have up := sp.u8
  obtain ⟨n, hn⟩ : ∃ n, n = p.length := ⟨_, rfl⟩
  have HN := Lib.hid hn
  have hnz : n ≤ 1048576 := by omega
  have cl := lists_c A ca p w sp (fun s hs => by have := tp s hs; omega) (by omega)
  unfold ListsPost at cl
  -- the document's calls, on texts x
  have rl := fun (W : World) (M : Option Addr) (cM : Nat) (x : List (List Int)) (hx : Ss W M cM x) (l : x.length = n) (lx : ∀ s ∈ x, s.length ≤ 1048576) (hb : Below w.heap.size w W) =>
    (show Calls Tryd.prog 14 #[.slice M n cM] W (StrsPost (hsh x) W) by
      have := rLeaves_c M cM x W hx (fun s hs => by have := lx s hs; omega) (by omega) (hr.below hb)
      rwa [l] at this)
  have rp := fun (W : World) (M : Option Addr) (cM : Nat) (x : List (List Int)) (hx : Ss W M cM (hsh x)) (l : x.length = n) (hb : Below w.heap.size w W) =>
    (show Calls Tryd.prog 36 #[.slice M n cM, .int .i64 i] W (StrsOrPost (if 0 ≤ i ∧ i ≤ (n : Int) then some (growB (hsh x) i.toNat) else none) W) by
      have := rGrowth_c M cM (hsh x) i W hx (hsh_dig x) (by rw [hsh_len]; omega) (hr.below hb)
      rwa [hsh_len, l] at this)
  unfold StrsPost at rl
  rw [← hn] at cl ⊢
  clear hn hz
  -- place i is in reach, or not
  obtain ⟨K, hK⟩ : ∃ k, k = decide (0 ≤ i ∧ i ≤ (n : Int)) := ⟨_, rfl⟩
  obtain ⟨R, hR⟩ : ∃ f : List (List Int) → Option (List (List Int)), f = fun x => if K = true then some (growB (hsh x) i.toNat) else none := ⟨_, rfl⟩
  obtain ⟨c, hc⟩ : ∃ c : Int, c = if K = true then 0 else 250 := ⟨_, rfl⟩
  have eR : ∀ x, (if 0 ≤ i ∧ i ≤ (n : Int) then some (growB (hsh x) i.toNat) else none) = R x := fun x => by
    rw [hR, hK]
    by_cases h : 0 ≤ i ∧ i ≤ (n : Int)
    · simp only [h, and_self, decide_true, if_true]
    · rw [if_neg h, decide_eq_false h]; rfl
  have ec : ∀ x, (if R x = none then (250 : Int) else 0) = c := fun x => by
    rw [hR, hc]
    cases K <;> simp
  have R64 : Hid (∀ x, ((R x).getD []).length ≤ 64) := Lib.hid fun x => by
    rw [hR]
    cases K
    · simp
    · have := growB_le (hsh x) i.toNat
      simp only [if_true, Option.getD_some]
      omega
  have RD : Hid (∀ x, ∀ d ∈ (R x).getD [], Dig d) := Lib.hid fun x => by
    rw [hR]
    cases K
    · simp
    · exact growB_dig (hsh_dig x) _
  have pr := fun (bb : Nat) (W : World) (L : Option Addr) (cL : Nat) (G : Nat → Nat) (x : List (List Int)) (hm : MkW bb W (.slice L n cL) G x) (l : x.length = n) (ux : ∀ s ∈ x, U8 s) (lx : ∀ s ∈ x, s.length ≤ 1048576) (hb : Below w.heap.size w W) =>
    (show Calls Tryd.prog 37 #[.slice L n cL, .int .i64 i] W (fun e w' => ∃ v, e = .returned (.tuple #[v, .int .i64 c]) ∧ OwnLists ((R x).getD []) W.heap.size w' v ∧ Below W.heap.size W w') by
      have := growthM i l.symm hm ux lx hnz (ht.below hb)
      unfold OutsPost at this
      rwa [eR, ec] at this)
  have rp' := fun (W : World) (M : Option Addr) (cM : Nat) (x : List (List Int)) (hx : Ss W M cM (hsh x)) (l : x.length = n) (hb : Below w.heap.size w W) =>
    (show Calls Tryd.prog 36 #[.slice M n cM, .int .i64 i] W (fun e w' => ∃ v, e = .returned (.tuple #[v, .int .i64 c]) ∧ NewV W.heap.size 9 w' v (((R x).getD []).map str) ∧ Below W.heap.size W w') by
      have := rp W M cM x hx l hb
      unfold StrsOrPost at this
      rwa [eR, ec] at this)
  have HK := Lib.hid hK
  have HC := Lib.hid hc
  have HR := Lib.hid hR
  have cc : (c != c) = false := by simp
  have ccE : (c == c) = true := by simp
  clear rp eR ec hK hR hc
  go_enter Tryd.func9, Tryd.ntmps9
  go_wp2_with fail
  refine cl.mono ?_; rintro e_ w1 ⟨v1, G, rfl, hmB, hb1⟩
  obtain ⟨L, cL, rfl⟩ := hmB.sl
  rw [← HN.out] at hmB ⊢
  have c1 := rl w1 A ca p (sp.below hb1) HN.out.symm tp hb1
  -- what came first lies under S
  obtain ⟨S, hS⟩ : ∃ S, S = w1.heap.size := ⟨_, rfl⟩
  have LOW : Hid ((∀ c, (Value.slice L n cL).ownBlock = some c → c < S) ∧ (∀ j, j < p.length → G j < S)) := Lib.hid ⟨fun c hc => by rw [hS]; exact (hmB.row.lt c hc).2, fun j hj => by rw [hS]; exact (hmB.blk j hj).2.lt⟩
  have wS : w.heap.size ≤ S := by rw [hS]; exact hb1.size
  have S1 : S ≤ w1.heap.size := Nat.le_of_eq hS
  clear cl hS
  go_wp2_with fail
  refine c1.mono ?_; rintro e_ w2 ⟨v2, rfl, hv2, hb2⟩
  obtain ⟨a2, k2, rfl, s2⟩ := hv2.ss (hsh_u8 p)
  have hB2 := hb1.trans (hb2.mono hb1.size)
  have hm2 := hmB.keep hb2
  have c2 := rp' w2 a2 k2 p s2 HN.out.symm hB2
  have S2 : S ≤ w2.heap.size := Nat.le_trans S1 hb2.size
  rw [hsh_len, ← HN.out]
  clear c1 hv2 hb2 hb1 hmB s2 S1
  go_wp2_with fail
  refine c2.mono ?_; rintro e_ w3 ⟨v3, rfl, hv3, hb3⟩
  have hB3 := hB2.trans (hb3.mono hB2.size)
  have hm3 := hm2.keep hb3
  have S3 : S ≤ w3.heap.size := Nat.le_trans S2 hb3.size
  have c3 := pr _ w3 L cL G p hm3 HN.out.symm up tp hB3
  clear c2 hb3 hB2 hm2 S2
  go_wp2_with fail
  refine c3.mono ?_; rintro e_ w4 ⟨v4, rfl, ho4, hb4⟩
  have hB4 := hB3.trans (hb4.mono hB3.size)
  have hm4 := hm3.keep hb4
  have hv4 := hv3.keep hb4
  have S4 : S ≤ w4.heap.size := Nat.le_trans S3 hb4.size
  have c4 := pr _ w4 L cL G p hm4 HN.out.symm up tp hB4
  replace ho4 := ho4.mono (Nat.le_of_eq rfl : w3.heap.size ≤ w3.heap.size)
  have M34 : w3.heap.size ≤ w4.heap.size := hb4.size
  clear c3 hb4 hB3 hm3 hv3
  go_wp2_with fail
  refine c4.mono ?_; rintro e_ w5 ⟨v5, rfl, ho5, hb5⟩
  have hB5 := hB4.trans (hb5.mono hB4.size)
  have hm5 := hm4.keep hb5
  have hv5 := hv4.keep hb5
  have S5 : S ≤ w5.heap.size := Nat.le_trans S4 hb5.size
  have BB : Hid (Below w4.heap.size w4 w5) := Lib.hid hb5
  have c5 := keptM HN.out hm5 (sp.below hB5) tp hnz
  clear c4 hb5 hB4 hm4 hv4
  go_wp2_with fail
  refine c5.mono ?_; rintro e_ w6 ⟨rfl, hb6⟩
  have hB6 := hB5.trans (hb6.mono hB5.size)
  have hm6 := hm5.keep hb6
  have hv6 := hv5.keep hb6
  have S6 : S ≤ w6.heap.size := Nat.le_trans S5 hb6.size
  have BB6 : Hid (Below w4.heap.size w4 w6) := Lib.hid (BB.out.trans (hb6.mono BB.out.size))
  have ho6 := ho5.keep hb6
  obtain ⟨a4, k4, rfl⟩ := ho4.sl
  obtain ⟨a5, k5, rfl⟩ := ho5.sl
  obtain ⟨X, hX⟩ : ∃ x, x = (R p).getD [] := ⟨_, rfl⟩
  have HX := Lib.hid hX
  rw [← hX] at ho4 ho6 hv6 ⊢
  obtain ⟨m, hm'⟩ : ∃ m, m = X.length := ⟨_, rfl⟩
  have HM := Lib.hid hm'
  rw [← hm'] at ho4 ho6 ⊢
  have m64 : m ≤ 64 := by rw [hm', hX]; exact R64.out p
  have XD : Hid (∀ d ∈ X, Dig d) := Lib.hid (by rw [hX]; exact RD.out p)
  clear c5 hb6 hB5 hm5 hv5 ho5 BB hX hm' S5
  -- the program's own test
  cases K with
  | false =>
    obtain rfl : c = 250 := HC.out
    have c8f : ((250 : Int) == 0) = false := by decide
    go_wp2_with fail
    have e9 := keptM HN.out hm6 (sp.below hB6) tp hnz
    refine e9.mono ?_; rintro e_ w7 ⟨rfl, hb7⟩
    have hB7 := hB6.trans (hb7.mono hB6.size)
    have hm7 := hm6.keep hb7
    have ho7 := ho6.keep hb7
    have S7 : S ≤ w7.heap.size := Nat.le_trans S6 hb7.size
    have BB7 : Hid (Below w4.heap.size w4 w7) := Lib.hid (BB6.out.trans (hb7.mono BB6.out.size))
    obtain ⟨a3, k3, rfl, s3⟩ := hv6.ss (fun s hs => (XD.out s hs).2)
    have s7 : Ss w7 a3 k3 X := s3.below hb7
    rw [← HM.out]
    clear e9 hB6 hm6 ho6 S6 BB6 hv6 s3 hb7
    have ap := apartO HM.out (by omega) XD.out (ho4.mono S3) BB7.out ho7 (B := S) (by omega) s7
    unfold TellB at ap
    clear ho4 ho7 s7 BB7
    go_wp2_with fail
    refine ap.mono ?_; rintro e_ w8 ⟨rfl, hb8⟩
    have hB8 := hB7.trans (hb8.mono wS)
    have hm8 := MkL.far hm7 hb8 LOW.out.1 LOW.out.2
    have S8 : S ≤ w8.heap.size := Nat.le_trans S7 hb8.size
    have c6 := turned36_c w.heap.size _ cL G p w8 (by rw [← HN.out]; exact hm8) up (fun s hs => by have := tp s hs; omega) (by rw [← HN.out]; omega) hB8.size
    unfold TurnedPost at c6
    rw [← HN.out] at c6
    clear ap hb8 hm7 hB7 S7
    go_wp2_with fail
    refine c6.mono ?_; rintro e_ w9 ⟨v9, rfl, hv9, hm9, hb9, hf9⟩
    obtain ⟨P, hP⟩ : ∃ P, P = turn36 p := ⟨_, rfl⟩
    have PL : P.length = n := by rw [hP, turn36_len, ← HN.out]
    have uP : ∀ s ∈ P, U8 s := by rw [hP]; exact turn36_u8 p
    have tP : ∀ s ∈ P, s.length ≤ 1048576 := by rw [hP]; exact turn36_le tp
    rw [← hP] at hv9 hm9
    have hB9 := hB8.trans hb9
    have hv9' := hv9
    obtain ⟨a9, k9, rfl, s9⟩ := hv9.ss uP
    have c7 := rl w9 a9 k9 P s9 PL tP hB9
    rw [PL] at hv9' ⊢
    have HPL := Lib.hid PL
    clear c6 hm8 hB8 S8 hb9 hf9 hv9 hP PL
    go_wp2_with fail
    refine c7.mono ?_; rintro e_ wa ⟨va, rfl, hva, hba⟩
    obtain ⟨aa, ka, rfl, sa⟩ := hva.ss (hsh_u8 P)
    have hBa := hB9.trans (hba.mono hB9.size)
    have hma := hm9.keep hba
    have s9a := s9.below hba
    have c8 := rp' wa aa ka P sa HPL.out hBa
    rw [hsh_len, HPL.out]
    clear c7 hva hba hm9 hB9 s9 sa rl hv9'
    go_wp2_with fail
    refine c8.mono ?_; rintro e_ wb ⟨vb, rfl, hvb, hbb⟩
    have hBb := hBa.trans (hbb.mono hBa.size)
    have hmb := hma.keep hbb
    have s9b := s9a.below hbb
    have c9 := pr _ wb _ cL G P hmb HPL.out uP tP hBb
    clear c8 hbb hma hBa s9a rp'
    go_wp2_with fail
    refine c9.mono ?_; rintro e_ wc ⟨vc, rfl, hoc, hbc⟩
    have hBc := hBb.trans (hbc.mono hBb.size)
    have hmc := hmb.keep hbc
    have s9c := s9b.below hbc
    have hvc := hvb.keep hbc
    obtain ⟨ac, kc, rfl⟩ := hoc.sl
    obtain ⟨Y, hY⟩ : ∃ x, x = (R P).getD [] := ⟨_, rfl⟩
    rw [← hY] at hoc hvc ⊢
    obtain ⟨q, hq⟩ : ∃ m, m = Y.length := ⟨_, rfl⟩
    have q64 : q ≤ 64 := by rw [hq, hY]; exact R64.out P
    have YD : ∀ d ∈ Y, Dig d := by rw [hY]; exact RD.out P
    obtain ⟨ad, kd, rfl, sd⟩ := hvc.ss (fun s hs => (YD s hs).2)
    rw [← hq] at hoc ⊢
    obtain ⟨ps, lps, rps, xps⟩ := OwnLists.rows hq hoc YD
    have d1 := textsR_c ac kc ps wc rps (fun q hq => by
      have h : q.xs ∈ ps.map (·.xs) := List.mem_map.2 ⟨q, hq, rfl⟩
      rw [xps] at h
      rw [(YD _ h).1]; omega) (by omega)
    unfold TextsOut at d1
    rw [lps, xps] at d1
    have uY : ∀ s ∈ Y, U8 s := fun s hs => (YD s hs).2
    have HQ := Lib.hid hq
    clear c9 hbc hBb hmb s9b hvb hY YD hq lps rps xps hoc hvc pr
    go_wp2_with fail
    refine d1.mono ?_; rintro e_ wd ⟨vd, rfl, hvd, hbd⟩
    obtain ⟨ae, ke, rfl, se⟩ := hvd.ss uY
    have hBd := hBc.trans (hbd.mono hBc.size)
    have hmd := hmc.keep hbd
    have s9d := s9c.below hbd
    have d2 := same36_c ae ad ke kd Y Y wd se (sd.below hbd)
    rw [decide_eq_true (show Y = Y from rfl), ← HQ.out] at d2
    rw [← HQ.out]
    clear d1 hbd hBc hmc s9c hvd se sd
    go_wp2_with fail
    refine d2.mono ?_; rintro e_ we ⟨rfl, nd, rfl⟩
    have hBe := below_drewN hBd nd
    have d3 := keptM HPL.out.symm (hmd.drewN nd) (s9d.drewN nd) tP hnz
    clear d2 hBd hmd s9d
    go_wp2_with fail
    refine d3.mono ?_; rintro e_ wf ⟨rfl, hbf⟩
    clear d3
    go_wp2_with fail
    go_ret
    exact ⟨rfl, hBe.trans (hbf.mono hBe.size)⟩
  | true =>
    obtain rfl : c = 0 := HC.out
    have hreach := of_decide_eq_true HK.out.symm
    obtain ⟨I, rfl⟩ : ∃ I : Nat, i = (I : Int) := ⟨i.toNat, by omega⟩
    have hIn : I ≤ n := by omega
    have eX : Hid (X = growB (hsh p) I) := Lib.hid (by rw [HX.out, HR.out]; simp)
    have nc : n ≤ cL := MkL.cap HN.out hm6
    have lc := fun W => cutB_to W L n cL I (by omega)
    have q1 := Root_c L cL (mparts G (p.take I)) w6 ((MkL.take hm6 hIn HN.out).1 up tp) (by rw [mparts_len, List.length_take]; omega) (mparts_le (fun s hs => tp s (List.mem_of_mem_take hs))) (ht.below hB6)
    rw [mparts_len, leavesOf_mparts, show (p.take I).length = I by rw [List.length_take, ← HN.out]; omega] at q1
    unfold BytesPost at q1
    obtain ⟨ro, hro⟩ : ∃ r, r = rootB (hsh (p.take I)) := ⟨_, rfl⟩
    rw [← hro] at q1
    have dro : Dig ro := by rw [hro]; exact root_dig _ _ _ (hsh_dig _)
    have HRO := Lib.hid hro
    clear hro hreach bi
    go_wp2_with fail
    refine q1.mono ?_; rintro e_ wm ⟨vr, rfl, nr, hbm⟩
    obtain ⟨ar, kr, rfl, sr⟩ := nr.sl
    rw [dro.1]
    have hBm := hB6.trans (hbm.mono hB6.size)
    have hmm := hm6.keep hbm
    have ho4m := (ho4.keep BB6.out).keep hbm
    have hom := ho6.keep hbm
    have Sm : S ≤ wm.heap.size := Nat.le_trans S6 hbm.size
    have BBm : Hid (Below w4.heap.size w4 wm) := Lib.hid (BB6.out.trans (hbm.mono BB6.out.size))
    have hvm := NewV.keep hv6 hbm
    have q2 := rootM HN.out hmm up tp hnz (ht.below hBm)
    unfold BytesPost at q2
    obtain ⟨rt, hrt⟩ : ∃ r, r = rootB (hsh p) := ⟨_, rfl⟩
    rw [← hrt] at q2
    have dr : Dig rt := by rw [hrt]; exact root_dig _ _ _ (hsh_dig p)
    have HRT := Lib.hid hrt
    clear q1 hB6 hm6 ho6 S6 BB6 hv6 hbm nr hrt lc
    go_wp2_with fail
    refine q2.mono ?_; rintro e_ wn ⟨vl, rfl, nl, hbn⟩
    obtain ⟨al, kl, rfl, sl⟩ := nl.sl
    rw [dr.1]
    have hBn := hBm.trans (hbn.mono hBm.size)
    have hmn := hmm.keep hbn
    have ho4n := ho4m.keep hbn
    have hon := hom.keep hbn
    have Sn : S ≤ wn.heap.size := Nat.le_trans Sm hbn.size
    have BBn : Hid (Below w4.heap.size w4 wn) := Lib.hid (BBm.out.trans (hbn.mono BBm.out.size))
    have hvn := hvm.keep hbn
    obtain ⟨ps, lps, rps, xps⟩ := OwnLists.rows HM.out ho4n XD.out
    have q3 := Grown_c ar al a4 kr kl k4 ro rt ps (I : Int) (n : Int) wn (sr.below hbn) dro.2 sl dr.2 rps (by omega) (by omega) (ht.below hBn)
    rw [dro.1, dr.1, lps, xps] at q3
    have ok : decide (growP ro (I : Int) rt (n : Int) X) = true := decide_eq_true (by
      have h := growB_shows (hsh_dig p) (m := I) (by rw [hsh_len, ← HN.out]; exact hIn) (by rw [hsh_len, ← HN.out]; exact hnz)
      rw [hsh_len, ← HN.out] at h
      rw [HRO.out, HRT.out, eX.out, show hsh (p.take I) = (hsh p).take I from List.map_take]
      exact h)
    rw [ok] at q3
    unfold TellPost at q3
    clear q2 hBm hmm ho4m hom Sm BBm hvm hbn nl sr sl lps rps xps ok
    go_wp2_with fail
    refine q3.mono ?_; rintro e_ wo ⟨rfl, hbo⟩
    have hBo := hBn.trans (hbo.mono hBn.size)
    have hmo := hmn.keep hbo
    have hoo := hon.keep hbo
    have So : S ≤ wo.heap.size := Nat.le_trans Sn hbo.size
    have BBo : Hid (Below w4.heap.size w4 wo) := Lib.hid (BBn.out.trans (hbo.mono BBn.out.size))
    have hvo := hvn.keep hbo
    have e9 := keptM HN.out hmo (sp.below hBo) tp hnz
    clear q3 hBn hmn ho4n hon Sn BBn hvn hbo
    go_wp2_with fail
    refine e9.mono ?_; rintro e_ w7 ⟨rfl, hb7⟩
    have hB7 := hBo.trans (hb7.mono hBo.size)
    have hm7 := hmo.keep hb7
    have ho7 := hoo.keep hb7
    have S7 : S ≤ w7.heap.size := Nat.le_trans So hb7.size
    have BB7 : Hid (Below w4.heap.size w4 w7) := Lib.hid (BBo.out.trans (hb7.mono BBo.out.size))
    obtain ⟨a3, k3, rfl, s3⟩ := hvo.ss (fun s hs => (XD.out s hs).2)
    have s7 : Ss w7 a3 k3 X := s3.below hb7
    rw [← HM.out]
    clear e9 hBo hmo hoo So BBo hvo s3 hb7
    have ap := apartO HM.out (by omega) XD.out (ho4.mono S3) BB7.out ho7 (B := S) (by omega) s7
    unfold TellB at ap
    clear ho4 ho7 s7 BB7
    go_wp2_with fail
    refine ap.mono ?_; rintro e_ w8 ⟨rfl, hb8⟩
    have hB8 := hB7.trans (hb8.mono wS)
    have hm8 := MkL.far hm7 hb8 LOW.out.1 LOW.out.2
    have S8 : S ≤ w8.heap.size := Nat.le_trans S7 hb8.size
    have c6 := turned36_c w.heap.size _ cL G p w8 (by rw [← HN.out]; exact hm8) up (fun s hs => by have := tp s hs; omega) (by rw [← HN.out]; omega) hB8.size
    unfold TurnedPost at c6
    rw [← HN.out] at c6
    clear ap hb8 hm7 hB7 S7
    go_wp2_with fail
    refine c6.mono ?_; rintro e_ w9 ⟨v9, rfl, hv9, hm9, hb9, hf9⟩
    obtain ⟨P, hP⟩ : ∃ P, P = turn36 p := ⟨_, rfl⟩
    have PL : P.length = n := by rw [hP, turn36_len, ← HN.out]
    have uP : ∀ s ∈ P, U8 s := by rw [hP]; exact turn36_u8 p
    have tP : ∀ s ∈ P, s.length ≤ 1048576 := by rw [hP]; exact turn36_le tp
    rw [← hP] at hv9 hm9
    have hB9 := hB8.trans hb9
    have hv9' := hv9
    obtain ⟨a9, k9, rfl, s9⟩ := hv9.ss uP
    have c7 := rl w9 a9 k9 P s9 PL tP hB9
    rw [PL] at hv9' ⊢
    have HPL := Lib.hid PL
    clear c6 hm8 hB8 S8 hb9 hf9 hv9 hP PL
    go_wp2_with fail
    refine c7.mono ?_; rintro e_ wa ⟨va, rfl, hva, hba⟩
    obtain ⟨aa, ka, rfl, sa⟩ := hva.ss (hsh_u8 P)
    have hBa := hB9.trans (hba.mono hB9.size)
    have hma := hm9.keep hba
    have s9a := s9.below hba
    have c8 := rp' wa aa ka P sa HPL.out hBa
    rw [hsh_len, HPL.out]
    clear c7 hva hba hm9 hB9 s9 sa rl hv9'
    go_wp2_with fail
    refine c8.mono ?_; rintro e_ wb ⟨vb, rfl, hvb, hbb⟩
    have hBb := hBa.trans (hbb.mono hBa.size)
    have hmb := hma.keep hbb
    have s9b := s9a.below hbb
    have c9 := pr _ wb _ cL G P hmb HPL.out uP tP hBb
    clear c8 hbb hma hBa s9a rp'
    go_wp2_with fail
    refine c9.mono ?_; rintro e_ wc ⟨vc, rfl, hoc, hbc⟩
    have hBc := hBb.trans (hbc.mono hBb.size)
    have hmc := hmb.keep hbc
    have s9c := s9b.below hbc
    have hvc := hvb.keep hbc
    obtain ⟨ac, kc, rfl⟩ := hoc.sl
    obtain ⟨Y, hY⟩ : ∃ x, x = (R P).getD [] := ⟨_, rfl⟩
    rw [← hY] at hoc hvc ⊢
    obtain ⟨q, hq⟩ : ∃ m, m = Y.length := ⟨_, rfl⟩
    have q64 : q ≤ 64 := by rw [hq, hY]; exact R64.out P
    have YD : ∀ d ∈ Y, Dig d := by rw [hY]; exact RD.out P
    obtain ⟨ad, kd, rfl, sd⟩ := hvc.ss (fun s hs => (YD s hs).2)
    rw [← hq] at hoc ⊢
    obtain ⟨ps, lps, rps, xps⟩ := OwnLists.rows hq hoc YD
    have d1 := textsR_c ac kc ps wc rps (fun q hq => by
      have h : q.xs ∈ ps.map (·.xs) := List.mem_map.2 ⟨q, hq, rfl⟩
      rw [xps] at h
      rw [(YD _ h).1]; omega) (by omega)
    unfold TextsOut at d1
    rw [lps, xps] at d1
    have uY : ∀ s ∈ Y, U8 s := fun s hs => (YD s hs).2
    have HQ := Lib.hid hq
    clear c9 hbc hBb hmb s9b hvb hY YD hq lps rps xps hoc hvc pr
    go_wp2_with fail
    refine d1.mono ?_; rintro e_ wd ⟨vd, rfl, hvd, hbd⟩
    obtain ⟨ae, ke, rfl, se⟩ := hvd.ss uY
    have hBd := hBc.trans (hbd.mono hBc.size)
    have hmd := hmc.keep hbd
    have s9d := s9c.below hbd
    have d2 := same36_c ae ad ke kd Y Y wd se (sd.below hbd)
    rw [decide_eq_true (show Y = Y from rfl), ← HQ.out] at d2
    rw [← HQ.out]
    clear d1 hbd hBc hmc s9c hvd se sd
    go_wp2_with fail
    refine d2.mono ?_; rintro e_ we ⟨rfl, nd, rfl⟩
    have hBe := below_drewN hBd nd
    have d3 := keptM HPL.out.symm (hmd.drewN nd) (s9d.drewN nd) tP hnz
    clear d2 hBd hmd s9d
    go_wp2_with fail
    refine d3.mono ?_; rintro e_ wf ⟨rfl, hbf⟩
    clear d3
    go_wp2_with fail
    go_ret
    exact ⟨rfl, hBe.trans (hbf.mono hBe.size)⟩
end Go.Proofs.YtmbifokiebjmmaaDoor
