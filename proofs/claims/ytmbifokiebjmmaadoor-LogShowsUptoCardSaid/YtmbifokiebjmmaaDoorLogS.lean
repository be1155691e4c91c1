/- signetref36 (Texts, Check) by their contracts. -/
import Derived.Test.YtmbifokiebjmmaaDoorLogR
import Derived.Test.YtmbifokiebjmmaaDoorLogC
set_option linter.unusedVariables false
set_option linter.unusedSimpArgs false
namespace Go.Sg
open Go.RowKit
abbrev runD (h m i : Nat) (d : List Int) (p : List (List Int)) := runT textD shaD h m i d p
theorem textD_u8 {a b : List Int} (ua : U8 a) (ub : U8 b) : U8 (textD a b) := .append (xs := [1]) (by decide) (.one (by decide) (by decide)) (.append (by decide) ua ub)
end Go.Sg
namespace Go.Proofs.YtmbifokiebjmmaaDoor
open Go.RowKit Go.Sg
def TextsPost (r : Option (List (List Int) × List Int × Bool)) (w : World) (e : Ending) (w' : World) : Prop :=
  ∃ v d ok, e = .returned (.tuple #[v, str d, .bool ok]) ∧ U8 d ∧ Below w.heap.size w w' ∧
    match r with
    | none => ok = false
    | some (ts, x, o) => o = ok ∧ x = d ∧ (∀ t ∈ ts, U8 t) ∧ NewV w.heap.size 9 w' v (ts.map str)

set_option maxHeartbeats 16000000 in
set_option maxRecDepth 20000 in
theorem Texts_c (n i0 : Nat) (leaf : List Int) (A : Option Addr) (cap : Nat) (p : List (List Int)) (w : World) (h1 : 1 ≤ n) (hm : n ≤ 9223372036854775807) (hi : i0 < n) (ul : U8 leaf) (hp : Ss w A cap p) (p32 : ∀ s ∈ p, s.length = 32) (l32 : leaf.length = 32) (hpl : p.length ≤ 4294967296) (ht : RefTabs w) :
    Calls Tryd.prog 22 #[.int .i64 (n : Int), .int .i64 (i0 : Int), str leaf, .slice A p.length cap] w (TextsPost (runD 63 (n - 1) i0 leaf p) w) := by
  obtain ⟨z, hz⟩ : ∃ z, z = p.length := ⟨_, rfl⟩
  have HZ := Lib.hid hz
  rw [← hz] at hpl ⊢
  obtain ⟨R, hR⟩ : ∃ R, R = runD 63 (n - 1) i0 leaf p := ⟨_, rfl⟩
  rw [← hR]
  have hn1 : ((n - 1 : Nat) : Int) = (n : Int) - 1 := by omega
  obtain ⟨m0, hm0⟩ : ∃ m, m = n - 1 := ⟨_, rfl⟩
  rw [← hm0] at hR hn1
  have HR := Lib.hid hR
  have hm63 : m0 < 2 ^ 63 := by omega
  have hi0 : i0 ≤ m0 := by omega
  have nn : (n : Int) ≤ 9223372036854775807 := by omega
  have n1 : (1 : Int) ≤ (n : Int) := by omega
  clear hz hR hm0
  go_enter Tryd.func22, Tryd.ntmps22
  go_wp2_with fail
  rw [← hn1]
  clear hn1
  go_loopw [1, 11, 12, 13, 14] (fun ti tt td tc tm wr => ∃ (h m i c : Nat) (ts : List (List Int)) (d : List Int), ti = .int .i64 (i : Int) ∧ td = str d ∧ tc = .int .i64 (c : Int) ∧ tm = .int .i64 (m : Int) ∧ m < 2 ^ h ∧ i ≤ m ∧ m ≤ m0 ∧ c ≤ z ∧ ts.length = c ∧ U8 d ∧ d.length = 32 ∧ (∀ t ∈ ts, U8 t) ∧
      NewV w.heap.size 9 wr tt (ts.map str) ∧ R = (runD h m i d (p.drop c)).map (fun x => (ts ++ x.1, x.2)) ∧ Below w.heap.size w wr) (fun _ _ _ _ t _ => (intOf t).toNat)
  case atStart => exact ⟨63, m0, i0, 0, [], leaf, rfl, rfl, rfl, rfl, hm63, hi0, Nat.le_refl _, Nat.zero_le _, rfl, ul, l32, by simp, .nil _ _ _, by rw [HR.out]; simp, .refl _ _⟩
  case round =>
    obtain ⟨h, m, i, c, ts, d, rfl, rfl, rfl, rfl, hmh, him, hmm, hc, htl, ud, ld, hts, hv, hr, hb⟩ := hrel
    obtain ⟨av, cv, rfl⟩ := hv.sl
    rw [List.length_map, htl] at hv ⊢
    have HTL := Lib.hid htl
    have HRR := Lib.hid hr
    have HTS := Lib.hid hts
    have HMH := Lib.hid hmh
    have LD := Lib.hid ld
    clear hr hts htl hmh ld
    have mi : (m : Int) ≤ 9223372036854775807 := by omega
    have ii : (i : Int) ≤ (m : Int) := by omega
    have ci : (c : Int) ≤ (z : Int) := by omega
    have zi : (z : Int) ≤ 4294967296 := by omega
    by_cases h0 : m = 0
    · have g1 : ¬ (0 : Int) < (m : Int) := by omega
      have g2 : decide ((0 : Int) < (m : Int)) = false := decide_eq_false g1
      subst h0
      have e : Hid (R = some (ts, d, (p.drop c).isEmpty)) := Lib.hid (by rw [HRR.out]; unfold runD; rw [runT_zero]; simp)
      have e2 : Hid ((p.drop c).isEmpty = ((c : Int) == (z : Int))) := Lib.hid (by
        by_cases hcz : c = z
        · subst hcz
          rw [List.drop_of_length_le (by rw [← HZ.out]; omega)]
          simp
        · have : 0 < (p.drop c).length := by rw [List.length_drop, ← HZ.out]; omega
          have h2 : p.drop c ≠ [] := List.length_pos_iff.1 this
          have h3 : ((c : Int) == (z : Int)) = false := by simp; omega
          rw [h3]
          simpa using h2)
      go_wp2_with fail
      refine bodyPost_ret (results_tmp3 rfl _ _ _) rfl ⟨_, d, ((c : Int) == (z : Int)), rfl, ud, hb, ?_⟩
      rw [e.out]
      exact ⟨e2.out, rfl, HTS.out, hv⟩
    · have g1 : (0 : Int) < (m : Int) := by omega
      have g2 : decide ((0 : Int) < (m : Int)) = true := decide_eq_true g1
      obtain ⟨h', rfl⟩ : ∃ h', h = h' + 1 := by
        cases h with
        | zero => have := HMH.out; simp at this; omega
        | succ h' => exact ⟨h', rfl⟩
      by_cases hodd : i % 2 = 1
      · by_cases hcz : c < z
        · skip
          obtain ⟨b, off, rfl, hcc⟩ := (hp.below hb).at_ (by rw [← HZ.out]; omega)
          have ck := hcc c (by rw [← HZ.out]; exact hcz)
          obtain ⟨q, hq⟩ : ∃ q, q = p[c]'(by rw [← HZ.out]; exact hcz) := ⟨_, rfl⟩
          have hmem : q ∈ p := by rw [hq]; exact List.getElem_mem _
          rw [← hq] at ck
          have uq := hp.u8 q hmem
          have lq := p32 q hmem
          have ed : Hid (p.drop c = q :: p.drop (c + 1)) := Lib.hid (by rw [hq]; exact List.drop_eq_getElem_cons (by rw [← HZ.out]; exact hcz))
          have cz : (c : Int) < (z : Int) := by omega
          have cz1 : decide ((z : Int) ≤ (c : Int)) = false := decide_eq_false (by omega)
          have cz2 : decide (z ≤ c) = false := decide_eq_false (by omega)
          have cz3 : ¬ z ≤ c := by omega
          clear hcc hq
          have s1 : (⟨#[1]⟩ : ByteArray) ++ strOfNums d = strOfNums (1 :: d) := by rw [str_one, str_append]; rfl
          have s2 : strOfNums (1 :: d) ++ strOfNums q = strOfNums (textD d q) := by rw [str_append]; rfl
          have s3 : (⟨#[1]⟩ : ByteArray) ++ strOfNums q = strOfNums (1 :: q) := by rw [str_one, str_append]; rfl
          have s4 : strOfNums (1 :: q) ++ strOfNums d = strOfNums (textD q d) := by rw [str_append]; rfl
          have z1 : (strOfNums d).size = 32 := by rw [strOfNums_size, LD.out]
          have z2 : (strOfNums q).size = 32 := by rw [strOfNums_size, lq]
          have z3 : (strOfNums (1 :: d)).size = 33 := by rw [strOfNums_size, List.length_cons, LD.out]
          have z4 : (strOfNums (1 :: q)).size = 33 := by rw [strOfNums_size, List.length_cons, lq]
          obtain ⟨tx, htx⟩ : ∃ tx, tx = textD q d := ⟨_, rfl⟩
          have ut : U8 tx := by rw [htx]; exact textD_u8 uq ud
          have HT := Lib.hid htx
          have lt : tx.length = 65 := by rw [htx]; simp [textD, LD.out, lq]
          rw [← htx] at s4
          clear htx
          have al := (Below.refl wr.heap.size wr).alloc (Nat.le_refl _) (.cells #[str tx] 9)
          have hv1 := hv.keep al
          have hB1 := hb.trans (al.mono hb.size)
          have lv := fun g hg => (hv.lt g hg).1
          clear hv hb
          go_wp2_with (at_builtin; refine wpList_append_newX _ rfl _ _ 22 rfl w.heap.size 9 16 (str []) rfl Tryd.underlying22 infoS _ _ rfl hv1 _ 1 (str tx) rfl rfl (cell_new1 _ _ _ _) (by rw [List.length_map, HTL.out]; omega) (by rw [List.length_map, HTL.out]; omega) hB1.size ?_)
          intro v' w2 hv2 hg2 ho2
          have hB2 := hB1.grown hg2 hB1.size lv
          have cs := sum_c tx w2 ut (by omega) (ht.below hB2)
          clear hv1 hg2 ho2 hB1
          go_wp2_with fail
          refine cs.mono ?_; rintro e_ w3 ⟨rfl, hb3⟩
          have hv3 := hv2.keep hb3
          have hB3 := hB2.trans (hb3.mono hB2.size)
          clear cs hv2 hB2 hb3
          go_wp2_with fail
          go_roundw
          case rel =>
            refine ⟨h', m / 2, i / 2, c + 1, ts ++ [tx], shaD tx, by go_num, rfl, by go_num, by go_num, by have := HMH.out; have := pow2_succ h'; omega, by omega, by omega, by omega, by rw [List.length_append, HTL.out]; rfl, (shaD_dig _).2, (shaD_dig _).1, ?_, by rw [List.map_append]; exact hv3, ?_, hB3⟩
            · intro t' ht'
              rcases List.mem_append.1 ht' with h | h
              · exact HTS.out t' h
              · simp at h; rw [h]; exact ut
            · rw [HRR.out, ed.out]
              unfold runD
              rw [runT_succ, if_neg h0, if_pos (.inl hodd)]
              simp only [hodd, if_true, ← HT.out, Option.map_map]
              congr 1
              funext x
              simp [Function.comp]
          case measure => simp [intOf]; omega
        · skip
          have cz : (z : Int) ≤ (c : Int) := by omega
          have cz1 : decide ((z : Int) ≤ (c : Int)) = true := decide_eq_true (by omega)
          have cz2 : decide (z ≤ c) = true := decide_eq_true (by omega)
          have cz3 : z ≤ c := by omega
          have e : Hid (R = none) := Lib.hid (by
            rw [HRR.out, List.drop_of_length_le (by rw [← HZ.out]; omega)]
            unfold runD
            rw [runT_succ, if_neg h0, if_pos (.inl hodd)]
            rfl)
          go_wp2_with fail
          refine bodyPost_ret (results_tmp3 rfl _ _ _) rfl ⟨_, [], false, rfl, .nil (by decide), hb, ?_⟩
          rw [e.out]
      · have hev : i % 2 = 0 := by omega
        by_cases hlt : i < m
        · have l1 : (i : Int) < (m : Int) := by omega
          have l2 : decide ((i : Int) < (m : Int)) = true := decide_eq_true l1
          have l3 : decide (i < m) = true := decide_eq_true hlt
          by_cases hcz : c < z
          · skip
            obtain ⟨b, off, rfl, hcc⟩ := (hp.below hb).at_ (by rw [← HZ.out]; omega)
            have ck := hcc c (by rw [← HZ.out]; exact hcz)
            obtain ⟨q, hq⟩ : ∃ q, q = p[c]'(by rw [← HZ.out]; exact hcz) := ⟨_, rfl⟩
            have hmem : q ∈ p := by rw [hq]; exact List.getElem_mem _
            rw [← hq] at ck
            have uq := hp.u8 q hmem
            have lq := p32 q hmem
            have ed : Hid (p.drop c = q :: p.drop (c + 1)) := Lib.hid (by rw [hq]; exact List.drop_eq_getElem_cons (by rw [← HZ.out]; exact hcz))
            have cz : (c : Int) < (z : Int) := by omega
            have cz1 : decide ((z : Int) ≤ (c : Int)) = false := decide_eq_false (by omega)
            have cz2 : decide (z ≤ c) = false := decide_eq_false (by omega)
            have cz3 : ¬ z ≤ c := by omega
            clear hcc hq
            have s1 : (⟨#[1]⟩ : ByteArray) ++ strOfNums d = strOfNums (1 :: d) := by rw [str_one, str_append]; rfl
            have s2 : strOfNums (1 :: d) ++ strOfNums q = strOfNums (textD d q) := by rw [str_append]; rfl
            have s3 : (⟨#[1]⟩ : ByteArray) ++ strOfNums q = strOfNums (1 :: q) := by rw [str_one, str_append]; rfl
            have s4 : strOfNums (1 :: q) ++ strOfNums d = strOfNums (textD q d) := by rw [str_append]; rfl
            have z1 : (strOfNums d).size = 32 := by rw [strOfNums_size, LD.out]
            have z2 : (strOfNums q).size = 32 := by rw [strOfNums_size, lq]
            have z3 : (strOfNums (1 :: d)).size = 33 := by rw [strOfNums_size, List.length_cons, LD.out]
            have z4 : (strOfNums (1 :: q)).size = 33 := by rw [strOfNums_size, List.length_cons, lq]
            obtain ⟨tx, htx⟩ : ∃ tx, tx = textD d q := ⟨_, rfl⟩
            have ut : U8 tx := by rw [htx]; exact textD_u8 ud uq
            have HT := Lib.hid htx
            have lt : tx.length = 65 := by rw [htx]; simp [textD, LD.out, lq]
            rw [← htx] at s2
            clear htx
            have al := (Below.refl wr.heap.size wr).alloc (Nat.le_refl _) (.cells #[str tx] 9)
            have hv1 := hv.keep al
            have hB1 := hb.trans (al.mono hb.size)
            have lv := fun g hg => (hv.lt g hg).1
            clear hv hb
            go_wp2_with (at_builtin; refine wpList_append_newX _ rfl _ _ 22 rfl w.heap.size 9 16 (str []) rfl Tryd.underlying22 infoS _ _ rfl hv1 _ 1 (str tx) rfl rfl (cell_new1 _ _ _ _) (by rw [List.length_map, HTL.out]; omega) (by rw [List.length_map, HTL.out]; omega) hB1.size ?_)
            intro v' w2 hv2 hg2 ho2
            have hB2 := hB1.grown hg2 hB1.size lv
            have cs := sum_c tx w2 ut (by omega) (ht.below hB2)
            clear hv1 hg2 ho2 hB1
            go_wp2_with fail
            refine cs.mono ?_; rintro e_ w3 ⟨rfl, hb3⟩
            have hv3 := hv2.keep hb3
            have hB3 := hB2.trans (hb3.mono hB2.size)
            clear cs hv2 hB2 hb3
            go_wp2_with fail
            go_roundw
            case rel =>
              refine ⟨h', m / 2, i / 2, c + 1, ts ++ [tx], shaD tx, by go_num, rfl, by go_num, by go_num, by have := HMH.out; have := pow2_succ h'; omega, by omega, by omega, by omega, by rw [List.length_append, HTL.out]; rfl, (shaD_dig _).2, (shaD_dig _).1, ?_, by rw [List.map_append]; exact hv3, ?_, hB3⟩
              · intro t' ht'
                rcases List.mem_append.1 ht' with h | h
                · exact HTS.out t' h
                · simp at h; rw [h]; exact ut
              · rw [HRR.out, ed.out]
                unfold runD
                rw [runT_succ, if_neg h0, if_pos (.inr hlt)]
                simp only [hodd, if_false, ← HT.out, Option.map_map]
                congr 1
                funext x
                simp [Function.comp]
            case measure => simp [intOf]; omega
          · skip
            have cz : (z : Int) ≤ (c : Int) := by omega
            have cz1 : decide ((z : Int) ≤ (c : Int)) = true := decide_eq_true (by omega)
            have cz2 : decide (z ≤ c) = true := decide_eq_true (by omega)
            have cz3 : z ≤ c := by omega
            have e : Hid (R = none) := Lib.hid (by
              rw [HRR.out, List.drop_of_length_le (by rw [← HZ.out]; omega)]
              unfold runD
              rw [runT_succ, if_neg h0, if_pos (.inr hlt)]
              rfl)
            go_wp2_with fail
            refine bodyPost_ret (results_tmp3 rfl _ _ _) rfl ⟨_, [], false, rfl, .nil (by decide), hb, ?_⟩
            rw [e.out]
        · have l1 : ¬ (i : Int) < (m : Int) := by omega
          have l2 : decide ((i : Int) < (m : Int)) = false := decide_eq_false l1
          have l3 : decide (i < m) = false := decide_eq_false hlt
          go_wp2_with fail
          go_roundw
          case rel =>
            refine ⟨h', m / 2, i / 2, c, ts, d, by go_num, rfl, rfl, by go_num, by have := HMH.out; have := pow2_succ h'; omega, by omega, by omega, hc, HTL.out, ud, LD.out, HTS.out, hv, ?_, hb⟩
            rw [HRR.out]
            unfold runD
            rw [runT_succ, if_neg h0, if_neg (by omega)]
          case measure => simp [intOf]; omega

set_option maxHeartbeats 16000000 in
set_option maxRecDepth 20000 in
theorem rCheck_c (A : Option Addr) (cap : Nat) (root leaf : List Int) (p : List (List Int)) (n i : Int) (w : World) (ur : U8 root) (ul : U8 leaf) (hp : Ss w A cap p) (hpl : p.length ≤ 4294967296) (bn : n ≤ 9223372036854775807) (ht : RefTabs w) :
    Calls Tryd.prog 21 #[str root, .int .i64 n, .int .i64 i, str leaf, .slice A p.length cap] w (TellPost (decide (checkP root n i leaf p)) w) := by
  have hc := hashes_c A cap p w hp
  have z1 : (strOfNums root).size = root.length := strOfNums_size _
  have z2 : (strOfNums leaf).size = leaf.length := strOfNums_size _
  obtain ⟨B, hB'⟩ : ∃ b, b = decide (∀ s ∈ p, s.length = 32) := ⟨_, rfl⟩
  have HB := Lib.hid hB'
  rw [← hB'] at hc
  clear hB'
  have no : ∀ {e : Ending} {w' : World}, ¬ checkP root n i leaf p → e = .returned (.bool false) → w' = w → TellPost (decide (checkP root n i leaf p)) w e w' := fun h he hw => by
    subst hw
    rw [decide_eq_false h]
    exact ⟨he, .refl _ _⟩
  by_cases h3 : 0 ≤ i
  · have g3 : decide (i < 0) = false := decide_eq_false (by omega)
    have g3' : ¬ i < 0 := by omega
    by_cases h4 : i < n
    · have g4 : decide (n ≤ i) = false := decide_eq_false (by omega)
      have g4' : ¬ n ≤ i := by omega
      by_cases h1 : root.length = 32
      · have g1 : ((root.length : Int) != 32) = false := by simp; omega
        by_cases h2 : leaf.length = 32
        · have g2 : ((leaf.length : Int) != 32) = false := by simp; omega
          cases B with
          | false =>
            obtain ⟨z, hz⟩ : ∃ z, z = p.length := ⟨_, rfl⟩
            rw [← hz] at hc ⊢
            clear hz
            go_enter Tryd.func21, Tryd.ntmps21
            go_wp2_with fail
            refine hc.mono ?_; rintro e_ w1 ⟨rfl, hw1⟩
            have hw2 := hw1.symm; subst hw2; clear hw1
            go_wp2_with fail
            go_ret
            exact no (fun h => of_decide_eq_false HB.out.symm h.2.1) rfl rfl
          | true =>
            have hall := of_decide_eq_true HB.out.symm
            obtain ⟨N, rfl⟩ : ∃ N : Nat, n = (N : Int) := ⟨n.toNat, by omega⟩
            obtain ⟨I, rfl⟩ : ∃ I : Nat, i = (I : Int) := ⟨i.toNat, by omega⟩
            have tx := Texts_c N I leaf A cap p w (by omega) (by omega) (by omega) ul hp hall h2 hpl ht
            obtain ⟨R, hR⟩ : ∃ R, R = runD 63 (N - 1) I leaf p := ⟨_, rfl⟩
            rw [← hR] at tx
            have HR := Lib.hid hR
            have fin : Hid (decide (checkP root N I leaf p) = decide (topT R = some root)) := Lib.hid (by
              have e : checkP root N I leaf p ↔ topT R = some root := by
                have f := foldH_runT (T := textD) (S := shaD) (P := pairD) (fun _ _ => rfl) 63 (N - 1) I leaf p (by omega) (by omega)
                rw [show N - 1 + 1 = N by omega] at f
                unfold checkP
                rw [Int.toNat_natCast, Int.toNat_natCast, f, hR]
                exact ⟨fun h => h.2.2.2.2, fun h => ⟨⟨h1, h2⟩, hall, by omega, by omega, h⟩⟩
              exact decide_eq_decide.2 e)
            obtain ⟨z, hz⟩ : ∃ z, z = p.length := ⟨_, rfl⟩
            rw [← hz] at hc tx ⊢
            have g5 : ¬ N ≤ I := by omega
            have g6 : decide (N ≤ I) = false := decide_eq_false g5
            clear hz hR hall no hp
            go_enter Tryd.func21, Tryd.ntmps21
            go_wp2_with fail
            refine hc.mono ?_; rintro e_ w1 ⟨rfl, hw1⟩
            have hw2 := hw1.symm; subst hw2; clear hw1 hc
            go_wp2_with fail
            refine tx.mono ?_; rintro e_ w2 ⟨v, d, ok, rfl, ud, hb, hres⟩
            have EQ : Hid (decide (topT R = some root) = (ok && decide (d = root))) := Lib.hid (by
              cases R with
              | none =>
                simp only at hres
                rw [hres]
                simp [topT]
              | some x =>
                obtain ⟨ts, x, o⟩ := x
                simp only at hres
                obtain ⟨rfl, rfl, _⟩ := hres
                cases o <;> simp [topT])
            have se := str_eq ud ur
            clear hres tx
            cases ok with
            | false =>
              go_wp2_with fail
              go_ret
              exact ⟨by rw [fin.out, EQ.out]; rfl, hb⟩
            | true =>
              go_wp2_with fail
              go_ret
              refine ⟨?_, hb⟩
              rw [fin.out, EQ.out]
              rfl
        · have g2 : ((leaf.length : Int) != 32) = true := by simp; omega
          go_enter Tryd.func21, Tryd.ntmps21
          go_wp2_with fail
          go_ret
          exact no (fun h => h2 h.1.2) rfl rfl
      · have g1 : ((root.length : Int) != 32) = true := by simp; omega
        go_enter Tryd.func21, Tryd.ntmps21
        go_wp2_with fail
        go_ret
        exact no (fun h => h1 h.1.1) rfl rfl
    · have g4 : decide (n ≤ i) = true := decide_eq_true (by omega)
      have g4' : n ≤ i := by omega
      go_enter Tryd.func21, Tryd.ntmps21
      go_wp2_with fail
      go_ret
      exact no (fun h => by have := h.2.2.2.1; omega) rfl rfl
  · have g3 : decide (i < 0) = true := decide_eq_true (by omega)
    have g3' : i < 0 := by omega
    go_enter Tryd.func21, Tryd.ntmps21
    go_wp2_with fail
    go_ret
    exact no (fun h => by have := h.2.2.1; omega) rfl rfl
end Go.Proofs.YtmbifokiebjmmaaDoor
