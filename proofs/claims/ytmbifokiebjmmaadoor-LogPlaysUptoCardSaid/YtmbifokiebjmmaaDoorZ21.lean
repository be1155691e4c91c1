import Derived.Test.YtmbifokiebjmmaaDoorZ17
import Derived.Test.YtmbifokiebjmmaaDoorZ18
import Derived.Test.YtmbifokiebjmmaaDoorZ9
import Derived.Test.YtmbifokiebjmmaaDoorZ2
/- signetref36 (Texts, Check) by their contracts. -/
set_option linter.unusedVariables false
set_option linter.unusedSimpArgs false
namespace Go.Sg
open Go.RowKit
abbrev runD (h m i : Nat) (d : List Int) (p : List (List Int)) := runT textD shaD h m i d p
theorem textD_u8 {a b : List Int} (ua : U8 a) (ub : U8 b) : U8 (textD a b) := .append (xs := [1]) (by decide) (.one (by decide) (by decide)) (.append (by decide) ua ub)
end Go.Sg
namespace Go.Proofs.YtmbifokiebjmmaaDoor
open Go.RowKit Go.Sg
def TextsPost (r : Option (List (List Int) × List Int × Bool)) (w : World) (e : Ending) (w' : World) : Prop :=
  ∃ v d ok, e = .returned (.tuple #[v, str d, .bool ok]) ∧ U8 d ∧ Below w.heap.size w w' ∧
    match r with
    | none => ok = false
    | some (ts, x, o) => o = ok ∧ x = d ∧ (∀ t ∈ ts, U8 t) ∧ NewV w.heap.size 9 w' v (ts.map str)

set_option maxHeartbeats 16000000 in
set_option maxRecDepth 20000 in
theorem Texts_c (n i0 : Nat) (leaf : List Int) (A : Option Addr) (cap : Nat) (p : List (List Int)) (w : World) (h1 : 1 ≤ n) (hm : n ≤ 9223372036854775807) (hi : i0 < n) (ul : U8 leaf) (hp : Ss w A cap p) (p32 : ∀ s ∈ p, s.length = 32) (l32 : leaf.length = 32) (hpl : p.length ≤ 4294967296) (ht : RefTabs w) :
    Calls Tryd.prog 22 #[.int .i64 (n : Int), .int .i64 (i0 : Int), str leaf, .slice A p.length cap] w (TextsPost (runD 63 (n - 1) i0 leaf p) w) := by
  obtain ⟨z, hz⟩ : ∃ z, z = p.length := ⟨_, rfl⟩
  have HZ := Lib.hid hz
  rw [← hz] at hpl ⊢
  obtain ⟨R, hR⟩ : ∃ R, R = runD 63 (n - 1) i0 leaf p := ⟨_, rfl⟩
  rw [← hR]
  have hn1 : ((n - 1 : Nat) : Int) = (n : Int) - 1 := by omega
  obtain ⟨m0, hm0⟩ : ∃ m, m = n - 1 := ⟨_, rfl⟩
  rw [← hm0] at hR hn1
  have HR := Lib.hid hR
  have hm63 : m0 < 2 ^ 63 := by omega
  have hi0 : i0 ≤ m0 := by omega
  have nn : (n : Int) ≤ 9223372036854775807 := by omega
  have n1 : (1 : Int) ≤ (n : Int) := by omega
  clear hz hR hm0
  go_enter Tryd.func22, Tryd.ntmps22
  go_wp2_with fail
  rw [← hn1]
  clear hn1
  go_loopw [1, 11, 12, 13, 14] (fun ti tt td tc tm wr => ∃ (h m i c : Nat) (ts : List (List Int)) (d : List Int), ti = .int .i64 (i : Int) ∧ td = str d ∧ tc = .int .i64 (c : Int) ∧ tm = .int .i64 (m : Int) ∧ m < 2 ^ h ∧ i ≤ m ∧ m ≤ m0 ∧ c ≤ z ∧ ts.length = c ∧ U8 d ∧ d.length = 32 ∧ (∀ t ∈ ts, U8 t) ∧
      NewV w.heap.size 9 wr tt (ts.map str) ∧ R = (runD h m i d (p.drop c)).map (fun x => (ts ++ x.1, x.2)) ∧ Below w.heap.size w wr) (fun _ _ _ _ t _ => (intOf t).toNat)
  case atStart => exact ⟨63, m0, i0, 0, [], leaf, rfl, rfl, rfl, rfl, hm63, hi0, Nat.le_refl _, Nat.zero_le _, rfl, ul, l32, by simp, .nil _ _ _, by rw [HR.out]; simp, .refl _ _⟩
  case round =>
    obtain ⟨h, m, i, c, ts, d, rfl, rfl, rfl, rfl, hmh, him, hmm, hc, htl, ud, ld, hts, hv, hr, hb⟩ := hrel
    obtain ⟨av, cv, rfl⟩ := hv.sl
    rw [List.length_map, htl] at hv ⊢
    have HTL := Lib.hid htl
    have HRR := Lib.hid hr
    have HTS := Lib.hid hts
    have HMH := Lib.hid hmh
    have LD := Lib.hid ld
    clear hr hts htl hmh ld
    have mi : (m : Int) ≤ 9223372036854775807 := by omega
    have ii : (i : Int) ≤ (m : Int) := by omega
    have ci : (c : Int) ≤ (z : Int) := by omega
    have zi : (z : Int) ≤ 4294967296 := by omega
    by_cases h0 : m = 0
    · have g1 : ¬ (0 : Int) < (m : Int) := by omega
      have g2 : decide ((0 : Int) < (m : Int)) = false := decide_eq_false g1
      subst h0
      have e : Hid (R = some (ts, d, (p.drop c).isEmpty)) := Lib.hid (by rw [HRR.out]; unfold runD; rw [runT_zero]; simp)
      have e2 : Hid ((p.drop c).isEmpty = ((c : Int) == (z : Int))) := Lib.hid (by
        by_cases hcz : c = z
        · subst hcz
          rw [List.drop_of_length_le (by rw [← HZ.out]; omega)]
          simp
        · have : 0 < (p.drop c).length := by rw [List.length_drop, ← HZ.out]; omega
          have h2 : p.drop c ≠ [] := List.length_pos_iff.1 this
          have h3 : ((c : Int) == (z : Int)) = false := by simp; omega
          rw [h3]
          simpa using h2)
      go_wp2_with fail
      refine bodyPost_ret (results_tmp3 rfl _ _ _) rfl ⟨_, d, ((c : Int) == (z : Int)), rfl, ud, hb, ?_⟩
      rw [e.out]
      exact ⟨e2.out, rfl, HTS.out, hv⟩
    · have g1 : (0 : Int) < (m : Int) := by omega
      have g2 : decide ((0 : Int) < (m : Int)) = true := decide_eq_true g1
      obtain ⟨h', rfl⟩ : ∃ h', h = h' + 1 := by
        cases h with
        | zero => have := HMH.out; simp at this; omega
        | succ h' => exact ⟨h', rfl⟩
      by_cases hodd : i % 2 = 1
      · by_cases hcz : c < z
        · skip
          obtain ⟨b, off, rfl, hcc⟩ := (hp.below hb).at_ (by rw [← HZ.out]; omega)
          have ck := hcc c (by rw [← HZ.out]; exact hcz)
          obtain ⟨q, hq⟩ : ∃ q, q = p[c]'(by rw [← HZ.out]; exact hcz) := ⟨_, rfl⟩
          have hmem : q ∈ p := by rw [hq]; exact List.getElem_mem _
          rw [← hq] at ck
          have uq := hp.u8 q hmem
          have lq := p32 q hmem
          have ed : Hid (p.drop c = q :: p.drop (c + 1)) := Lib.hid (by rw [hq]; exact List.drop_eq_getElem_cons (by rw [← HZ.out]; exact hcz))
          have cz : (c : Int) < (z : Int) := by omega
          have cz1 : decide ((z : Int) ≤ (c : Int)) = false := decide_eq_false (by omega)
          have cz2 : decide (z ≤ c) = false := decide_eq_false (by omega)
          have cz3 : ¬ z ≤ c := by omega
          clear hcc hq
          have s1 : (⟨#[1]⟩ : ByteArray) ++ strOfNums d = strOfNums (1 :: d) := by rw [str_one, str_append]; rfl
          have s2 : strOfNums (1 :: d) ++ strOfNums q = strOfNums (textD d q) := by rw [str_append]; rfl
          have s3 : (⟨#[1]⟩ : ByteArray) ++ strOfNums q = strOfNums (1 :: q) := by rw [str_one, str_append]; rfl
          have s4 : strOfNums (1 :: q) ++ strOfNums d = strOfNums (textD q d) := by rw [str_append]; rfl
          have z1 : (strOfNums d).size = 32 := by rw [strOfNums_size, LD.out]
          have z2 : (strOfNums q).size = 32 := by rw [strOfNums_size, lq]
          have z3 : (strOfNums (1 :: d)).size = 33 := by rw [strOfNums_size, List.length_cons, LD.out]
          have z4 : (strOfNums (1 :: q)).size = 33 := by rw [strOfNums_size, List.length_cons, lq]
          obtain ⟨tx, htx⟩ : ∃ tx, tx = textD q d := ⟨_, rfl⟩
          have ut : U8 tx := by rw [htx]; exact textD_u8 uq ud
          have HT := Lib.hid htx
          have lt : tx.length = 65 := by rw [htx]; simp [textD, LD.out, lq]
          rw [← htx] at s4
          clear htx
          have al := (Below.refl wr.heap.size wr).alloc (Nat.le_refl _) (.cells #[str tx] 9)
          have hv1 := hv.keep al
          have hB1 := hb.trans (al.mono hb.size)
          have lv := fun g hg => (hv.lt g hg).1
          clear hv hb
          go_wp2_with (at_builtin; refine wpList_append_newX _ rfl _ _ 22 rfl w.heap.size 9 16 (str []) rfl Tryd.underlying22 infoS _ _ rfl hv1 _ 1 (str tx) rfl rfl (cell_new1 _ _ _ _) (by rw [List.length_map, HTL.out]; omega) (by rw [List.length_map, HTL.out]; omega) hB1.size ?_)
          intro v' w2 hv2 hg2 ho2
          have hB2 := hB1.grown hg2 hB1.size lv
          have cs := sum_c tx w2 ut (by omega) (ht.below hB2)
          clear hv1 hg2 ho2 hB1
          go_wp2_with fail
          refine cs.mono ?_; rintro e_ w3 ⟨rfl, hb3⟩
          have hv3 := hv2.keep hb3
          have hB3 := hB2.trans (hb3.mono hB2.size)
          clear cs hv2 hB2 hb3
          go_wp2_with fail
          go_roundw
          case rel =>
            refine ⟨h', m / 2, i / 2, c + 1, ts ++ [tx], shaD tx, by go_num, rfl, by go_num, by go_num, by have := HMH.out; have := pow2_succ h'; omega, by omega, by omega, by omega, by rw [List.length_append, HTL.out]; rfl, (shaD_dig _).2, (shaD_dig _).1, ?_, by rw [List.map_append]; exact hv3, ?_, hB3⟩
            · intro t' ht'
              rcases List.mem_append.1 ht' with h | h
              · exact HTS.out t' h
              · simp at h; rw [h]; exact ut
            · rw [HRR.out, ed.out]
              unfold runD
              rw [runT_succ, if_neg h0, if_pos (.inl hodd)]
              simp only [hodd, if_true, ← HT.out, Option.map_map]
              congr 1
              funext x
              simp [Function.comp]
          case measure => simp [intOf]; omega
        · skip
          have cz : (z : Int) ≤ (c : Int) := by omega
          have cz1 : decide ((z : Int) ≤ (c : Int)) = true := decide_eq_true (by omega)
          have cz2 : decide (z ≤ c) = true := decide_eq_true (by omega)
          have cz3 : z ≤ c := by omega
          have e : Hid (R = none) := Lib.hid (by
            rw [HRR.out, List.drop_of_length_le (by rw [← HZ.out]; omega)]
            unfold runD
            rw [runT_succ, if_neg h0, if_pos (.inl hodd)]
            rfl)
          go_wp2_with fail
          refine bodyPost_ret (results_tmp3 rfl _ _ _) rfl ⟨_, [], false, rfl, .nil (by decide), hb, ?_⟩
          rw [e.out]
      · have hev : i % 2 = 0 := by omega
        by_cases hlt : i < m
        · have l1 : (i : Int) < (m : Int) := by omega
          have l2 : decide ((i : Int) < (m : Int)) = true := decide_eq_true l1
          have l3 : decide (i < m) = true := decide_eq_true hlt
          by_cases hcz : c < z
          · skip
            obtain ⟨b, off, rfl, hcc⟩ := (hp.below hb).at_ (by rw [← HZ.out]; omega)
            have ck := hcc c (by rw [← HZ.out]; exact hcz)
            obtain ⟨q, hq⟩ : ∃ q, q = p[c]'(by rw [← HZ.out]; exact hcz) := ⟨_, rfl⟩
            have hmem : q ∈ p := by rw [hq]; exact List.getElem_mem _
            rw [← hq] at ck
            have uq := hp.u8 q hmem
            have lq := p32 q hmem
            have ed : Hid (p.drop c = q :: p.drop (c + 1)) := Lib.hid (by rw [hq]; exact List.drop_eq_getElem_cons (by rw [← HZ.out]; exact hcz))
            have cz : (c : Int) < (z : Int) := by omega
            have cz1 : decide ((z : Int) ≤ (c : Int)) = false := decide_eq_false (by omega)
            have cz2 : decide (z ≤ c) = false := decide_eq_false (by omega)
            have cz3 : ¬ z ≤ c := by omega
            clear hcc hq
            have s1 : (⟨#[1]⟩ : ByteArray) ++ strOfNums d = strOfNums (1 :: d) := by rw [str_one, str_append]; rfl
            have s2 : strOfNums (1 :: d) ++ strOfNums q = strOfNums (textD d q) := by rw [str_append]; rfl
            have s3 : (⟨#[1]⟩ : ByteArray) ++ strOfNums q = strOfNums (1 :: q) := by rw [str_one, str_append]; rfl
            have s4 : strOfNums (1 :: q) ++ strOfNums d = strOfNums (textD q d) := by rw [str_append]; rfl
            have z1 : (strOfNums d).size = 32 := by rw [strOfNums_size, LD.out]
            have z2 : (strOfNums q).size = 32 := by rw [strOfNums_size, lq]
            have z3 : (strOfNums (1 :: d)).size = 33 := by rw [strOfNums_size, List.length_cons, LD.out]
            have z4 : (strOfNums (1 :: q)).size = 33 := by rw [strOfNums_size, List.length_cons, lq]
            obtain ⟨tx, htx⟩ : ∃ tx, tx = textD d q := ⟨_, rfl⟩
            have ut : U8 tx := by rw [htx]; exact textD_u8 ud uq
            have HT := Lib.hid htx
            have lt : tx.length = 65 := by rw [htx]; simp [textD, LD.out, lq]
            rw [← htx] at s2
            clear htx
            have al := (Below.refl wr.heap.size wr).alloc (Nat.le_refl _) (.cells #[str tx] 9)
            have hv1 := hv.keep al
            have hB1 := hb.trans (al.mono hb.size)
            have lv := fun g hg => (hv.lt g hg).1
            clear hv hb
            go_wp2_with (at_builtin; refine wpList_append_newX _ rfl _ _ 22 rfl w.heap.size 9 16 (str []) rfl Tryd.underlying22 infoS _ _ rfl hv1 _ 1 (str tx) rfl rfl (cell_new1 _ _ _ _) (by rw [List.length_map, HTL.out]; omega) (by rw [List.length_map, HTL.out]; omega) hB1.size ?_)
            intro v' w2 hv2 hg2 ho2
            have hB2 := hB1.grown hg2 hB1.size lv
            have cs := sum_c tx w2 ut (by omega) (ht.below hB2)
            clear hv1 hg2 ho2 hB1
            go_wp2_with fail
            refine cs.mono ?_; rintro e_ w3 ⟨rfl, hb3⟩
            have hv3 := hv2.keep hb3
            have hB3 := hB2.trans (hb3.mono hB2.size)
            clear cs hv2 hB2 hb3
            go_wp2_with fail
            go_roundw
            case rel =>
              refine ⟨h', m / 2, i / 2, c + 1, ts ++ [tx], shaD tx, by go_num, rfl, by go_num, by go_num, by have := HMH.out; have := pow2_succ h'; omega, by omega, by omega, by omega, by rw [List.length_append, HTL.out]; rfl, (shaD_dig _).2, (shaD_dig _).1, ?_, by rw [List.map_append]; exact hv3, ?_, hB3⟩
              · intro t' ht'
                rcases List.mem_append.1 ht' with h | h
                · exact HTS.out t' h
                · simp at h; rw [h]; exact ut
              · rw [HRR.out, ed.out]
                unfold runD
                rw [runT_succ, if_neg h0, if_pos (.inr hlt)]
                simp only [hodd, if_false, ← HT.out, Option.map_map]
                congr 1
                funext x
                simp [Function.comp]
            case measure => simp [intOf]; omega
          · skip
            have cz : (z : Int) ≤ (c : Int) := by omega
            have cz1 : decide ((z : Int) ≤ (c : Int)) = true := decide_eq_true (by omega)
            have cz2 : decide (z ≤ c) = true := decide_eq_true (by omega)
            have cz3 : z ≤ c := by omega
            have e : Hid (R = none) := Lib.hid (by
              rw [HRR.out, List.drop_of_length_le (by rw [← HZ.out]; omega)]
              unfold runD
              rw [runT_succ, if_neg h0, if_pos (.inr hlt)]
              rfl)
            go_wp2_with fail
            refine bodyPost_ret (results_tmp3 rfl _ _ _) rfl ⟨_, [], false, rfl, .nil (by decide), hb, ?_⟩
            rw [e.out]
        · have l1 : ¬ (i : Int) < (m : Int) := by omega
          have l2 : decide ((i : Int) < (m : Int)) = false := decide_eq_false l1
          have l3 : decide (i < m) = false := decide_eq_false hlt
          go_wp2_with fail
          go_roundw
          case rel =>
            refine ⟨h', m / 2, i / 2, c, ts, d, by go_num, rfl, rfl, by go_num, by have := HMH.out; have := pow2_succ h'; omega, by omega, by omega, hc, HTL.out, ud, LD.out, HTS.out, hv, ?_, hb⟩
            rw [HRR.out]
            unfold runD
            rw [runT_succ, if_neg h0, if_neg (by omega)]
          case measure => simp [intOf]; omega

set_option maxHeartbeats 16000000 in
set_option maxRecDepth 20000 in
theorem rCheck_c (A : Option Addr) (cap : Nat) (root leaf : List Int) (p : List (List Int)) (n i : Int) (w : World) (ur : U8 root) (ul : U8 leaf) (hp : Ss w A cap p) (hpl : p.length ≤ 4294967296) (bn : n ≤ 9223372036854775807) (ht : RefTabs w) :
    Calls Tryd.prog 21 #[str root, .int .i64 n, .int .i64 i, str leaf, .slice A p.length cap] w (TellPost (decide (checkP root n i leaf p)) w) := by
  have hc := hashes_c A cap p w hp
  have z1 : (strOfNums root).size = root.length := strOfNums_size _
  have z2 : (strOfNums leaf).size = leaf.length := strOfNums_size _
  obtain ⟨B, hB'⟩ : ∃ b, b = decide (∀ s ∈ p, s.length = 32) := ⟨_, rfl⟩
  have HB := Lib.hid hB'
  rw [← hB'] at hc
  clear hB'
  have no : ∀ {e : Ending} {w' : World}, ¬ checkP root n i leaf p → e = .returned (.bool false) → w' = w → TellPost (decide (checkP root n i leaf p)) w e w' := fun h he hw => by
    subst hw
    rw [decide_eq_false h]
    exact ⟨he, .refl _ _⟩
  by_cases h3 : 0 ≤ i
  · have g3 : decide (i < 0) = false := decide_eq_false (by omega)
    have g3' : ¬ i < 0 := by omega
    by_cases h4 : i < n
    · have g4 : decide (n ≤ i) = false := decide_eq_false (by omega)
      have g4' : ¬ n ≤ i := by omega
      by_cases h1 : root.length = 32
      · have g1 : ((root.length : Int) != 32) = false := by simp; omega
        by_cases h2 : leaf.length = 32
        · have g2 : ((leaf.length : Int) != 32) = false := by simp; omega
          cases B with
          | false =>
            obtain ⟨z, hz⟩ : ∃ z, z = p.length := ⟨_, rfl⟩
            rw [← hz] at hc ⊢
            clear hz
            go_enter Tryd.func21, Tryd.ntmps21
            go_wp2_with fail
            refine hc.mono ?_; rintro e_ w1 ⟨rfl, hw1⟩
            have hw2 := hw1.symm; subst hw2; clear hw1
            go_wp2_with fail
            go_ret
            exact no (fun h => of_decide_eq_false HB.out.symm h.2.1) rfl rfl
          | true =>
            have hall := of_decide_eq_true HB.out.symm
            obtain ⟨N, rfl⟩ : ∃ N : Nat, n = (N : Int) := ⟨n.toNat, by omega⟩
            obtain ⟨I, rfl⟩ : ∃ I : Nat, i = (I : Int) := ⟨i.toNat, by omega⟩
            have tx := Texts_c N I leaf A cap p w (by omega) (by omega) (by omega) ul hp hall h2 hpl ht
            obtain ⟨R, hR⟩ : ∃ R, R = runD 63 (N - 1) I leaf p := ⟨_, rfl⟩
            rw [← hR] at tx
            have HR := Lib.hid hR
            have fin : Hid (decide (checkP root N I leaf p) = decide (topT R = some root)) := Lib.hid (by
              have e : checkP root N I leaf p ↔ topT R = some root := by
                have f := foldH_runT (T := textD) (S := shaD) (P := pairD) (fun _ _ => rfl) 63 (N - 1) I leaf p (by omega) (by omega)
                rw [show N - 1 + 1 = N by omega] at f
                unfold checkP
                rw [Int.toNat_natCast, Int.toNat_natCast, f, hR]
                exact ⟨fun h => h.2.2.2.2, fun h => ⟨⟨h1, h2⟩, hall, by omega, by omega, h⟩⟩
              exact decide_eq_decide.2 e)
            obtain ⟨z, hz⟩ : ∃ z, z = p.length := ⟨_, rfl⟩
            rw [← hz] at hc tx ⊢
            have g5 : ¬ N ≤ I := by omega
            have g6 : decide (N ≤ I) = false := decide_eq_false g5
            clear hz hR hall no hp
            go_enter Tryd.func21, Tryd.ntmps21
            go_wp2_with fail
            refine hc.mono ?_; rintro e_ w1 ⟨rfl, hw1⟩
            have hw2 := hw1.symm; subst hw2; clear hw1 hc
            go_wp2_with fail
            refine tx.mono ?_; rintro e_ w2 ⟨v, d, ok, rfl, ud, hb, hres⟩
            have EQ : Hid (decide (topT R = some root) = (ok && decide (d = root))) := Lib.hid (by
              cases R with
              | none =>
                simp only at hres
                rw [hres]
                simp [topT]
              | some x =>
                obtain ⟨ts, x, o⟩ := x
                simp only at hres
                obtain ⟨rfl, rfl, _⟩ := hres
                cases o <;> simp [topT])
            have se := str_eq ud ur
            clear hres tx
            cases ok with
            | false =>
              go_wp2_with fail
              go_ret
              exact ⟨by rw [fin.out, EQ.out]; rfl, hb⟩
            | true =>
              go_wp2_with fail
              go_ret
              refine ⟨?_, hb⟩
              rw [fin.out, EQ.out]
              rfl
        · have g2 : ((leaf.length : Int) != 32) = true := by simp; omega
          go_enter Tryd.func21, Tryd.ntmps21
          go_wp2_with fail
          go_ret
          exact no (fun h => h2 h.1.2) rfl rfl
      · have g1 : ((root.length : Int) != 32) = true := by simp; omega
        go_enter Tryd.func21, Tryd.ntmps21
        go_wp2_with fail
        go_ret
        exact no (fun h => h1 h.1.1) rfl rfl
    · have g4 : decide (n ≤ i) = true := decide_eq_true (by omega)
      have g4' : n ≤ i := by omega
      go_enter Tryd.func21, Tryd.ntmps21
      go_wp2_with fail
      go_ret
      exact no (fun h => by have := h.2.2.2.1; omega) rfl rfl
  · have g3 : decide (i < 0) = true := decide_eq_true (by omega)
    have g3' : i < 0 := by omega
    go_enter Tryd.func21, Tryd.ntmps21
    go_wp2_with fail
    go_ret
    exact no (fun h => by have := h.2.2.1; omega) rfl rfl
end Go.Proofs.YtmbifokiebjmmaaDoor
/- signetlaw36: lists, hash, clash by their contracts. -/
set_option linter.unusedVariables false
set_option linter.unusedSimpArgs false
namespace Go.Sg
open Go.RowKit
theorem wpList_index_str {P : Program} {w : World} {ops : Array Oper} {rest : List Oper} {o : Oper} {a : Act} {Q : Exit → Act → World → Prop} (hgd : o.guard = none) (ty : TypeId) (x i : Operand) (ho : o.op = .index ty x i) (xs : List Int) (ux : U8 xs) (hx : a.eval x = str xs) (j : Nat) (hi : a.eval i = .int .i64 (j : Int)) (hj : j < xs.length)
    (hu : P.underlying ty = some .string) (y : Int) (hy : y = nth xs j) (h : wpList P ops Q rest (a.put o.dst (.int .u8 y)) w) : wpList P ops Q (o :: rest) a w := by
  subst hy
  have hsz : j < (strOfNums xs).size := by rw [strOfNums_size]; exact hj
  have hr := run_index_string (P := P) w ty (strOfNums xs) .i64 (j : Int) hu
  rw [dif_pos ⟨by omega, by omega⟩] at hr
  have e := str_nth ux j hsz
  simp only [Int.toNat_natCast] at hr
  rw [e] at hr
  refine wpList_plain hgd fun K hK => ?_
  unfold Oper.wp execOp
  simp only [ho, hx, hi, Sem.run_bind, Sem.run_pure, hr, Result.andThen_ok]
  exact hK _ _ h
theorem fill_step (s : List Int) (j r : Nat) (hj : j < s.length) (hr : 0 < r) : (s.take j ++ List.replicate r (0 : Int)).set j (nth s j) = s.take (j + 1) ++ List.replicate (r - 1) 0 := by
  obtain ⟨r', rfl⟩ : ∃ r', r = r' + 1 := ⟨r - 1, by omega⟩
  rw [List.set_append_right _ _ (by rw [List.length_take]; omega), List.length_take, Nat.min_eq_left (by omega), Nat.sub_self, List.replicate_succ, List.set_cons_zero, take_succ_nth _ _ hj, List.append_assoc]
  rfl
theorem mark_step (s : List Int) (y : Int) (j r : Nat) (hr : 0 < r) : (s ++ (List.replicate j y ++ List.replicate r (0 : Int))).set (s.length + j) y = s ++ (List.replicate (j + 1) y ++ List.replicate (r - 1) 0) := by
  obtain ⟨r', rfl⟩ : ∃ r', r = r' + 1 := ⟨r - 1, by omega⟩
  rw [List.set_append_right _ _ (by omega), Nat.add_sub_cancel_left, List.set_append_right _ _ (by rw [List.length_replicate]; omega), List.length_replicate, Nat.sub_self, List.replicate_succ (n := r'), List.set_cons_zero, List.replicate_succ' (n := j), List.append_assoc]
  rfl
end Go.Sg
namespace Go.Proofs.YtmbifokiebjmmaaDoor
open Go.RowKit Go.Sg
abbrev MkW (B : Nat) (w : World) (l : Value) (G : Nat → Nat) (ss : List (List Int)) := MkL B 5 25 w l G ss
def ListsPost (ss : List (List Int)) (w : World) (e : Ending) (w' : World) : Prop := ∃ v G, e = .returned v ∧ MkW w.heap.size w' v G ss ∧ Below w.heap.size w w'
theorem infoL : (Tryd.prog.info? 25).map (fun i => (i.zero, i.size, i.bytes)) = some (some (.slice none 0 0), 1, 24) := by kernel_rfl

set_option maxHeartbeats 16000000 in
set_option maxRecDepth 20000 in
theorem lists_c (A : Option Addr) (cap : Nat) (ss : List (List Int)) (w : World) (hs : Ss w A cap ss) (hl : ∀ s ∈ ss, s.length ≤ 4294967296) (hn : ss.length ≤ 4294967296) :
    Calls Tryd.prog 11 #[.slice A ss.length cap] w (ListsPost ss w) := by
  obtain ⟨n, hn'⟩ : ∃ n, n = ss.length := ⟨_, rfl⟩
  have HN := Lib.hid hn'
  rw [← hn'] at hn ⊢
  clear hn'
  go_enter Tryd.func11, Tryd.ntmps11
  go_wp2_with fail
  go_loopw [3, 4] (fun v t wr => ∃ (k : Nat) (G : Nat → Nat), k ≤ n ∧ t = .int .i64 (k : Int) ∧ MkW w.heap.size wr v G (ss.take k) ∧ Below w.heap.size w wr) (fun _ t _ => n - (intOf t).toNat)
  case atStart => exact ⟨0, fun _ => 0, by omega, rfl, .nil _ _ _ _ _, .refl _ _⟩
  case round =>
    obtain ⟨k, G, hk, rfl, hv, hb⟩ := hrel
    obtain ⟨av, cv, rfl⟩ := hv.sl
    have lk : (ss.take k).length = k := by rw [List.length_take, ← HN.out]; omega
    rw [lk] at hv ⊢
    have LK := Lib.hid lk
    clear lk
    by_cases hlt : k < n
    · have hd : decide ((k : Int) < (n : Int)) = true := decide_eq_true (by omega)
      have hki : (k : Int) < (n : Int) := by omega
      obtain ⟨b, off, rfl, hc⟩ := (hs.below hb).at_ (by have := HN.out; omega)
      have ck := hc k (by have := HN.out; omega)
      obtain ⟨s, hsk⟩ : ∃ s, s = ss[k]'(by have := HN.out; omega) := ⟨_, rfl⟩
      have hmem : s ∈ ss := by rw [hsk]; exact List.getElem_mem _
      rw [← hsk] at ck
      have et : Hid (ss.take (k + 1) = ss.take k ++ [s]) := Lib.hid (by
        rw [List.take_add_one, List.getElem?_eq_getElem (by have := HN.out; omega), ← hsk]
        rfl)
      have us := hs.u8 s hmem
      obtain ⟨m, hm⟩ : ∃ m, m = s.length := ⟨_, rfl⟩
      have hml : m ≤ 4294967296 := by rw [hm]; exact hl s hmem
      have sz : (strOfNums s).size = m := by rw [strOfNums_size, hm]
      have HM := Lib.hid hm
      have hrow : b < wr.heap.size := World.block_lt_of_cell? _ _ ck
      clear hc hsk hm
      go_wp2_with (at_make; refine wpList_make_room _ rfl _ _ 25 rfl 5 .u8 1 Tryd.underlying25 info8s (m + 70) _ rfl rfl (by omega) (by omega) (by omega) ?_)
      intro w1 hk1 hs1 hb1
      obtain ⟨g, hg⟩ : ∃ g, g = wr.heap.size := ⟨_, rfl⟩
      rw [← hg] at hk1 ⊢
      have HG := Lib.hid hg
      have hv1 := hv.keep hb1
      have hB1 := hb.trans (hb1.mono hb.size)
      have ck1 : w1.cell? ⟨b, off + k, none⟩ = some (str s) := by rw [World.cell?_of_block (w := wr) (hb1.block b hrow)]; exact ck
      have gw : w.heap.size ≤ g := by rw [hg]; exact hb.size
      have NE : Hid (b ≠ g ∧ (∀ j, j < k → G j ≠ g) ∧ (∀ c, (Value.slice av k cv).ownBlock = some c → c ≠ g)) := Lib.hid ⟨by omega, fun j hj e => by
        have := (hv.blk j (by rw [LK.out]; exact hj)).2.lt
        omega, fun c hc2 e => by
        have := (hv.row.lt c hc2).2
        omega⟩
      clear hv hb hs1 hb1 hg hrow ck
      go_wp2_with fail
      have e0 : List.replicate (m + 70) (0 : Int) = s.take 0 ++ List.replicate (m + 70 - 0) 0 := by simp
      rw [e0] at hk1
      have g0 := World.grownBy.refl w1 (some g)
      go_loopw [5, 6] (fun u t wr => ∃ j : Nat, j ≤ m ∧ t = .int .i64 (j : Int) ∧ u = .slice (some ⟨g, 0, none⟩) j (m + 70) ∧ Blk wr g .u8 5 (s.take j ++ List.replicate (m + 70 - j) 0) ∧ w1.grownBy wr (some g)) (fun _ t _ => m - (intOf t).toNat)
      case atStart => exact ⟨0, by omega, rfl, rfl, hk1, g0⟩
      case round =>
        clear hk1 g0 e0
        obtain ⟨j, hj, rfl, rfl, hk2, g2⟩ := hrel
        have ck2 : wr.cell? ⟨b, off + k, none⟩ = some (str s) := by rw [World.cell?_of_block (w := w1) (g2.block b (World.block_lt_of_cell? _ _ ck1) (fun e => NE.out.1 (Option.some.inj e)))]; exact ck1
        by_cases hjm : j < m
        · have hd2 : decide ((j : Int) < (m : Int)) = true := decide_eq_true (by omega)
          have hjmi : (j : Int) < (m : Int) := by omega
          obtain ⟨y, hy⟩ : ∃ y, y = nth s j := ⟨_, rfl⟩
          have al := World.grownBy_alloc wr (.cells #[.int .u8 y] 5) (some g)
          have hk3 := hk2.alloc (.cells #[.int .u8 y] 5)
          have hln : (s.take j ++ List.replicate (m + 70 - j) (0 : Int)).length = m + 70 := by rw [List.length_append, List.length_take, List.length_replicate, ← HM.out]; omega
          have HY := Lib.hid hy
          clear hk2 hy
          go_wp2_with (first | (refine wpList_index_str rfl 9 _ _ rfl s us rfl j rfl (by rw [← HM.out]; exact hjm) Tryd.underlying9 y HY.out ?_) | (at_builtin; refine wpList_append_in rfl _ _ 25 rfl 5 .u8 1 Tryd.underlying25 info8s g j (m + 70) _ rfl hk3 hln.symm (by rw [hln]; omega) _ 1 y rfl (cells_one _ _ _ _ _ rfl) ?_))
          intro w3 hk4 hg4 hs4
          rw [HY.out, fill_step s j _ (by rw [← HM.out]; exact hjm) (by omega), show m + 70 - j - 1 = m + 70 - (j + 1) by omega] at hk4
          have g4 := grownBy_trans (grownBy_trans g2 al) hg4
          clear hk3 hg4 al hs4
          go_wp2_with fail
          go_roundw
          case rel => exact ⟨j + 1, by omega, by go_num, rfl, hk4, g4⟩
          case measure => simp [intOf]; omega
        · obtain rfl : j = m := by omega
          have hd2 : decide ((j : Int) < (j : Int)) = false := by simp
          have hk5 : Blk wr g .u8 5 (s ++ (List.replicate 0 (mk36 k) ++ List.replicate (70 - 0) 0)) := by
            rw [List.take_of_length_le (by rw [← HM.out]; omega), show j + 70 - j = 70 by omega] at hk2
            exact hk2
          go_wp2_with fail
          go_loopw [7, 8] (fun u t wr => ∃ q : Nat, q ≤ 70 ∧ t = .int .i64 (q : Int) ∧ u = .slice (some ⟨g, 0, none⟩) (j + q) (j + 70) ∧ Blk wr g .u8 5 (s ++ (List.replicate q (mk36 k) ++ List.replicate (70 - q) 0)) ∧ w1.grownBy wr (some g)) (fun _ t _ => 70 - (intOf t).toNat)
          case atStart => exact ⟨0, by omega, rfl, rfl, hk5, g2⟩
          case round =>
            clear hk5 hk2 g2 ck2
            obtain ⟨q, hq, rfl, rfl, hk2, g2⟩ := hrel
            by_cases hq70 : q < 70
            · have hd3 : decide ((q : Int) < 70) = true := decide_eq_true (by omega)
              have hqi : (q : Int) < 70 := by omega
              obtain ⟨y, hy⟩ : ∃ y, y = mk36 k := ⟨_, rfl⟩
              have ye : (1 : Int) + ((k : Int) % 250) = y := by rw [hy]; unfold mk36; omega
              have yw : IntKind.u8.wrap y = y := by rw [IntKind.wrap_u8']; have := mk36_rng k; omega
              have al := World.grownBy_alloc wr (.cells #[.int .u8 y] 5) (some g)
              rw [← hy] at hk2
              have hk3 := hk2.alloc (.cells #[.int .u8 y] 5)
              have hln : (s ++ (List.replicate q y ++ List.replicate (70 - q) (0 : Int))).length = j + 70 := by rw [List.length_append, List.length_append, List.length_replicate, List.length_replicate, ← HM.out]; omega
              have HY := Lib.hid hy
              clear hk2 hy
              go_wp2_with (at_builtin; refine wpList_append_in rfl _ _ 25 rfl 5 .u8 1 Tryd.underlying25 info8s g (j + q) (j + 70) _ rfl hk3 hln.symm (by rw [hln]; omega) _ 1 y rfl (cells_one _ _ _ _ _ rfl) ?_)
              intro w3 hk4 hg4 hs4
              rw [show j + q = s.length + q by rw [← HM.out], mark_step s y q _ (by omega), show 70 - q - 1 = 70 - (q + 1) by omega, HY.out] at hk4
              have g4 := grownBy_trans (grownBy_trans g2 al) hg4
              clear hk3 hg4 al hs4
              go_wp2_with fail
              go_roundw
              case rel => exact ⟨q + 1, by omega, by go_num, rfl, hk4, g4⟩
              case measure => simp [intOf]; omega
            · obtain rfl : q = 70 := by omega
              have hk6 : Blk wr g .u8 5 (s ++ mks36 k) := by
                rw [show List.replicate 70 (mk36 k) ++ List.replicate (70 - 70) (0 : Int) = mks36 k by simp [mks36]] at hk2
                exact hk2
              have hv2 : MkW w.heap.size wr (.slice av k cv) G (ss.take k) := MkL.grown hv1 g2 (by
                cases ho : (Value.slice av k cv).ownBlock with
                | none => exact .inl rfl
                | some c => exact .inr fun e => NE.out.2.2 c ho (Option.some.inj e)) (fun q hq e => NE.out.2.1 q (by rw [LK.out] at hq; exact hq) (Option.some.inj e))
              have hB2 := hB1.grown g2 hB1.size (by intro c hc; cases hc; exact gw)
              have al := (Below.refl wr.heap.size wr).alloc (Nat.le_refl _) (.cells #[.slice (some ⟨g, 0, none⟩) j (j + 70)] 25)
              have hv3 := hv2.keep al
              have hk7 := hk6.alloc (.cells #[.slice (some ⟨g, 0, none⟩) j (j + 70)] 25)
              have hB3 := hB2.trans (al.mono hB2.size)
              have hd4 : decide ((70 : Int) < 70) = false := by decide
              rw [show ((70 : Nat) : Int) = 70 from rfl]
              clear hk2 hk6 hv1 hv2 g2 hB1 hB2 al
              have rowk := hv3.row
              have LKR : ((List.range (ss.take k).length).map (mval G (ss.take k))).length = k := by rw [List.length_map, List.length_range, LK.out]
              have LKH := Lib.hid LKR
              clear LKR
              go_wp2_with (at_builtin; refine wpList_append_newV _ rfl _ _ 23 rfl w.heap.size 25 24 Tryd.underlying23 infoL _ _ rfl rowk _ 1 (.slice (some ⟨g, 0, none⟩) j (j + 70)) ⟨_, _, _, rfl⟩ rfl (cell_new1 _ _ _ _) (by rw [LKH.out]; omega) (by rw [LKH.out]; omega) hB3.size ?_)
              intro v' w9 hv9 hg9 ho9
              have hB9 := hB3.grown hg9 hB3.size (fun c hc => (rowk.lt c hc).1)
              have fin := MkL.push (s := s) (g := g) hv3 (by rw [LK.out]; exact hk7) gw (fun q hq => NE.out.2.1 q (by rw [LK.out] at hq; exact hq)) (by decide) (v' := v') (by rw [← HM.out, List.length_take]; exact hv9) hg9 (fun c hc => ⟨NE.out.2.2 c hc, fun q hq => hv3.aside (by decide) hq c hc⟩)
              rw [← et.out] at fin
              clear hv3 hk7 hB3 hg9 ho9 hv9 rowk
              go_wp2_with fail
              go_roundw
              case rel => exact ⟨k + 1, _, by omega, by go_num, fin, hB9⟩
              case measure => simp [intOf]; omega
    · obtain rfl : k = n := by omega
      have hd : decide ((k : Int) < (k : Int)) = false := by simp
      rw [List.take_of_length_le (by rw [← HN.out]; omega)] at hv
      go_wp2_with fail
      go_ret
      exact ⟨_, G, rfl, hv, hb⟩
end Go.Proofs.YtmbifokiebjmmaaDoor
/- signetlaw36: texts, turned, kept by their contracts. -/
set_option linter.unusedVariables false
set_option linter.unusedSimpArgs false
namespace Go.Sg
open Go.RowKit
/-- Of what was there, nothing but the first n of these blocks has turned. -/
def Fr (G : Nat → Nat) (n : Nat) (w w' : World) : Prop := w.heap.size ≤ w'.heap.size ∧ ∀ c, c < w.heap.size → (∀ j, j < n → c ≠ G j) → w'.heap[c]? = w.heap[c]?
theorem Fr.refl (G : Nat → Nat) (n : Nat) (w : World) : Fr G n w w := ⟨Nat.le_refl _, fun _ _ _ => rfl⟩
theorem Fr.drew {G : Nat → Nat} {n : Nat} {w w' : World} (h : Fr G n w w') : Fr G n w w'.drew := h
theorem Fr.below {G : Nat → Nat} {n : Nat} {w w' w'' : World} (h : Fr G n w w') (hb : Below w'.heap.size w' w'') : Fr G n w w'' :=
  ⟨Nat.le_trans h.1 hb.size, fun c hc hn => (hb.block c (Nat.lt_of_lt_of_le hc h.1)).trans (h.2 c hc hn)⟩
theorem Fr.set {G : Nat → Nat} {n : Nat} {w w' : World} (h : Fr G n w w') {i : Nat} (hi : i < n) (k : Nat) (v : Value) : Fr G n w (w'.setCell ⟨G i, k, none⟩ v) :=
  ⟨by have := h.1; simpa using this, fun c hc hn => (heap_setCell_other w' ⟨G i, k, none⟩ c v (fun e => hn i hi e)).trans (h.2 c hc hn)⟩
theorem NewV.by_blocks {B : Nat} {E : TypeId} {w w' : World} {v : Value} {vs : List Value} (h : NewV B E w v vs) (hf : ∀ c, v.ownBlock = some c → w'.heap[c]? = w.heap[c]?) : NewV B E w' v vs := by
  rcases h with h | ⟨g, cap, cs, rfl, h1, hh, h2⟩
  · exact .inl h
  · exact .inr ⟨g, cap, cs, rfl, h1, (hf g rfl).trans hh, h2⟩
theorem MkL.by_blocks {B : Nat} {E T : TypeId} {w w' : World} {l : Value} {G : Nat → Nat} {ss : List (List Int)} (h : MkL B E T w l G ss) (hr : ∀ c, l.ownBlock = some c → w'.heap[c]? = w.heap[c]?) (hf : ∀ j, j < ss.length → w'.heap[G j]? = w.heap[G j]?) : MkL B E T w' l G ss :=
  ⟨h.row.by_blocks hr, fun j hj => ⟨(h.blk j hj).1, (hf j hj).trans (h.blk j hj).2⟩, h.apart⟩
/-- Lists that are none of those that were written over. -/
theorem MkL.fr_above {B n : Nat} {E T : TypeId} {w w' : World} {l : Value} {G G' : Nat → Nat} {ss : List (List Int)} (h : MkL B E T w l G ss) (S : Nat) (hS : S ≤ B) (hG : ∀ j, j < n → G' j < S) (hf : Fr G' n w w') : MkL B E T w' l G ss :=
  h.by_blocks (fun c hc => by
    have := h.row.lt c hc
    exact hf.2 c this.2 fun j hj e => by have := hG j hj; omega) (fun j hj => by
    have := h.blk j hj
    exact hf.2 _ this.2.lt fun i hi e => by have := hG i hi; omega)
theorem MkL.fr_under {B n S : Nat} {E T : TypeId} {w w' : World} {l : Value} {G G' : Nat → Nat} {ss : List (List Int)} (h : MkL B E T w l G ss) (h1 : ∀ c, l.ownBlock = some c → c < S) (h2 : ∀ j, j < ss.length → G j < S) (hG : ∀ j, j < n → S ≤ G' j) (hf : Fr G' n w w') : MkL B E T w' l G ss :=
  h.by_blocks (fun c hc => by
    have a := h1 c hc
    exact hf.2 c (h.row.lt c hc).2 fun j hj e => by have := hG j hj; omega) (fun j hj => by
    have a := h2 j hj
    exact hf.2 _ (h.blk j hj).2.lt fun i hi e => by have := hG i hi; omega)
theorem MkL.drew {B : Nat} {E T : TypeId} {w : World} {l : Value} {G : Nat → Nat} {ss : List (List Int)} (h : MkL B E T w l G ss) : MkL B E T w.drew l G ss := ⟨h.row, h.blk, h.apart⟩
theorem MkL.drewN {B : Nat} {E T : TypeId} {w : World} {l : Value} {G : Nat → Nat} {ss : List (List Int)} (h : MkL B E T w l G ss) (n : Nat) : MkL B E T (w.drewN n) l G ss := ⟨h.row, h.blk, h.apart⟩
theorem Ss.drewN {w : World} {a : Option Addr} {cap : Nat} {ss : List (List Int)} (h : Ss w a cap ss) (n : Nat) : Ss (w.drewN n) a cap ss := h.below (below_drewN (.refl _ _) n)
end Go.Sg
namespace Go.Proofs.YtmbifokiebjmmaaDoor
open Go.RowKit Go.Sg
def TextsOut (ss : List (List Int)) (w : World) (e : Ending) (w' : World) : Prop := ∃ v, e = .returned v ∧ NewV w.heap.size 9 w' v (ss.map str) ∧ Below w.heap.size w w'

set_option maxHeartbeats 16000000 in
set_option maxRecDepth 20000 in
theorem texts_c (bb : Nat) (L : Option Addr) (cL : Nat) (G : Nat → Nat) (ss : List (List Int)) (w : World) (hm : MkW bb w (.slice L ss.length cL) G ss) (hl : ∀ s ∈ ss, s.length ≤ 4294967296) (hn : ss.length ≤ 4294967296) :
    Calls Tryd.prog 35 #[.slice L ss.length cL] w (TextsOut ss w) := by
  obtain ⟨n, hn'⟩ : ∃ n, n = ss.length := ⟨_, rfl⟩
  have HN := Lib.hid hn'
  rw [← hn'] at hn hm ⊢
  clear hn'
  go_enter Tryd.func35, Tryd.ntmps35
  go_wp2_with fail
  go_loopw [3, 4] (fun v t wr => ∃ k : Nat, k ≤ n ∧ t = .int .i64 (k : Int) ∧ NewV w.heap.size 9 wr v ((ss.take k).map str) ∧ Below w.heap.size w wr) (fun _ t _ => n - (intOf t).toNat)
  case atStart => exact ⟨0, by omega, rfl, .nil _ _ _, .refl _ _⟩
  case round =>
    obtain ⟨k, hk, rfl, hv, hb⟩ := hrel
    obtain ⟨av, cv, rfl⟩ := hv.sl
    have lk : ((ss.take k).map str).length = k := by rw [List.length_map, List.length_take, ← HN.out]; omega
    rw [lk] at hv ⊢
    have LK := Lib.hid lk
    clear lk
    by_cases hlt : k < n
    · have hd : decide ((k : Int) < (n : Int)) = true := decide_eq_true (by omega)
      have hki : (k : Int) < (n : Int) := by omega
      have hmr := hm.keep hb
      obtain ⟨g, rfl, _, cell⟩ := hmr.place (i := k) (by rw [← HN.out]; exact hlt)
      obtain ⟨s, hs⟩ : ∃ s, s = ss.getD k [] := ⟨_, rfl⟩
      have hkb := (hmr.blk k (by rw [← HN.out]; exact hlt)).2
      rw [← hs] at cell hkb
      have et : Hid (ss.take (k + 1) = ss.take k ++ [s]) := Lib.hid (by
        rw [List.take_add_one, List.getElem?_eq_getElem (by rw [← HN.out]; exact hlt), hs, List.getD_eq_getElem?_getD, List.getElem?_eq_getElem (by rw [← HN.out]; exact hlt)]
        rfl)
      have sl : s.length ≤ 4294967296 := by rw [hs]; exact hl _ (getD_mem (by rw [← HN.out]; exact hlt))
      have sw : Sl .u8 wr (some ⟨G k, 0, none⟩) (s.length + 70) s := by
        have := hkb.sl s.length (s.length + 70) (by omega) (by omega)
        rwa [List.take_left] at this
      have hcv := run_str_of (P := Tryd.prog) wr 25 9 5 Tryd.underlying25 Tryd.underlying5 Tryd.underlying9 s.length rfl sw
      have al := (Below.refl wr.heap.size wr).alloc (Nat.le_refl _) (.cells #[str s] 9)
      have hv1 := hv.keep al
      have hB1 := hb.trans (al.mono hb.size)
      have lv := fun g hg => (hv.lt g hg).1
      clear hmr hkb hs sw hv hb al
      go_wp2_with (at_builtin; refine wpList_append_newX _ rfl _ _ 22 rfl w.heap.size 9 16 (str []) rfl Tryd.underlying22 infoS _ _ rfl hv1 _ 1 (str s) rfl rfl (cell_new1 _ _ _ _) (by rw [LK.out]; omega) (by rw [LK.out]; omega) hB1.size ?_)
      intro v' w2 hv2 hg2 ho2
      have hB2 := hB1.grown hg2 hB1.size lv
      clear hv1 hg2 ho2 hB1 hcv
      go_wp2_with fail
      go_roundw
      case rel => exact ⟨k + 1, by omega, by go_num, by rw [et.out, List.map_append]; rw [← List.map_take] at hv2; exact hv2, hB2⟩
      case measure => simp [intOf]; omega
    · obtain rfl : k = n := by omega
      have hd : decide ((k : Int) < (k : Int)) = false := by simp
      rw [List.take_of_length_le (by rw [← HN.out]; omega)] at hv
      go_wp2_with fail
      go_ret
      exact ⟨_, rfl, hv, hb⟩

def TurnedPost (bb : Nat) (l : Value) (G : Nat → Nat) (ss : List (List Int)) (w : World) (e : Ending) (w' : World) : Prop :=
  ∃ v, e = .returned v ∧ NewV w.heap.size 9 w' v ((turn36 ss).map str) ∧ MkW bb w' l G (turn36 ss) ∧ Below bb w w' ∧ Fr G ss.length w w'

set_option maxHeartbeats 16000000 in
set_option maxRecDepth 20000 in
theorem turned36_c (bb : Nat) (L : Option Addr) (cL : Nat) (G : Nat → Nat) (ss : List (List Int)) (w : World) (hm : MkW bb w (.slice L ss.length cL) G ss) (hu : ∀ s ∈ ss, U8 s) (hl : ∀ s ∈ ss, s.length ≤ 4294967296) (hn : ss.length ≤ 4294967296) (hbb : bb ≤ w.heap.size) :
    Calls Tryd.prog 18 #[.slice L ss.length cL] w (TurnedPost bb (.slice L ss.length cL) G ss w) := by
  obtain ⟨n, hn'⟩ : ∃ n, n = ss.length := ⟨_, rfl⟩
  have HN := Lib.hid hn'
  rw [← hn'] at hn hm ⊢
  clear hn'
  go_enter Tryd.func18, Tryd.ntmps18
  go_wp2_with fail
  go_loopw [3] (fun t wr => ∃ i : Nat, i ≤ n ∧ t = .int .i64 (i : Int) ∧ MkW bb wr (.slice L n cL) G (turnF ss i 0) ∧ Below bb w wr ∧ Fr G n w wr) (fun t _ => n - (intOf t).toNat)
  case atStart => exact ⟨0, by omega, rfl, by rw [turnF_start]; exact hm, .refl _ _, .refl _ _ _⟩
  case round =>
    clear hm
    obtain ⟨i, hi, rfl, hm, hb, hf⟩ := hrel
    by_cases hlt : i < n
    · have hd : decide ((i : Int) < (n : Int)) = true := decide_eq_true (by omega)
      have hii : (i : Int) < (n : Int) := by omega
      have hiS : i < ss.length := by rw [← HN.out]; exact hlt
      obtain ⟨m, hmn⟩ : ∃ m, m = (ss.getD i []).length := ⟨_, rfl⟩
      have HM := Lib.hid hmn
      have ml : m ≤ 4294967296 := by rw [hmn]; exact hl _ (getD_mem hiS)
      have HI := Lib.hid hiS
      clear hmn hiS
      go_wp2_with fail
      go_loopw [4] (fun t wr => ∃ k : Nat, k ≤ m ∧ t = .int .i64 (k : Int) ∧ MkW bb wr (.slice L n cL) G (turnF ss i k) ∧ Below bb w wr ∧ Fr G n w wr) (fun t _ => m - (intOf t).toNat)
      case atStart => exact ⟨0, by omega, rfl, hm, hb, hf⟩
      case round =>
        clear hm hb hf
        obtain ⟨k, hk, rfl, hm, hb, hf⟩ := hrel
        obtain ⟨g, rfl, _, cell⟩ := hm.place (i := i) (by rw [turnF_len]; exact HI.out)
        rw [turnF_at_len _ _ _ HI.out, ← HM.out] at cell
        by_cases hkm : k < m
        · have hd2 : decide ((k : Int) < (m : Int)) = true := decide_eq_true (by omega)
          have hkmi : (k : Int) < (m : Int) := by omega
          obtain ⟨x, hx⟩ : ∃ x, x = nth (ss.getD i []) k := ⟨_, rfl⟩
          obtain ⟨y, hy⟩ : ∃ y, y = mk36 i := ⟨_, rfl⟩
          obtain ⟨f0, c0, hB, hm2⟩ := hm.set (by decide) (i := i) (j := k) (by rw [turnF_len]; exact HI.out) (by rw [turnF_at_len _ _ _ HI.out, ← HM.out]; exact hkm) (bx x y)
          rw [turnF_nth _ _ _ HI.out (by rw [← HM.out]; exact hkm), ← hx] at c0
          rw [hx, hy, turnF_step ss i k HI.out (by rw [← HM.out]; exact hkm), ← hx, ← hy] at hm2
          have hb2 := hb.setCell (p := ⟨G i, k, none⟩) hB (.int .u8 (bx x y))
          have hf2 := (hf.set (i := i) hlt k (.int .u8 (bx x y))).drew
          have hxo : bits .xor .u8 x y = bx x y := rfl
          have ye : (1 : Int) + ((i : Int) % 250) = y := by rw [hy]; unfold mk36; omega
          have yw : IntKind.u8.wrap y = y := by rw [IntKind.wrap_u8', hy]; have := mk36_rng i; omega
          clear hm hb hx hy hf
          go_wp2_with fail
          go_region
          all_goals (
            have hm3 := hm2.drew
            have hb3 := below_drewN hb2 1
            clear hm2 hb2
            go_wp2_with fail
            go_roundw
            case rel => exact ⟨k + 1, by omega, by go_num, hm3, hb3, hf2⟩
            case measure => simp [intOf]; omega)
        · obtain rfl : k = m := by omega
          have hd2 : decide ((k : Int) < (k : Int)) = false := by simp
          rw [HM.out, turnF_next] at hm
          go_wp2_with fail
          go_roundw
          case rel => exact ⟨i + 1, by omega, by go_num, hm, hb, hf⟩
          case measure => simp [intOf]; omega
    · obtain rfl : i = n := by omega
      have hd : decide ((i : Int) < (i : Int)) = false := by simp
      rw [HN.out, turnF_end, ← HN.out] at hm
      have tx := texts_c bb L cL G (turn36 ss) _ (by rw [turn36_len, ← HN.out]; exact hm) (turn36_le hl) (by rw [turn36_len, ← HN.out]; exact hn)
      rw [turn36_len, ← HN.out] at tx
      go_wp2_with fail
      refine tx.mono ?_; rintro e w2 ⟨v, rfl, hv, hb2⟩
      go_wp2_with fail
      go_ret
      have hsz := hb.size
      exact ⟨v, rfl, hv.mono hsz, hm.keep hb2, hb.trans (hb2.mono (Nat.le_trans hbb hsz)), by rw [← HN.out]; exact hf.below hb2⟩

set_option maxHeartbeats 16000000 in
set_option maxRecDepth 20000 in
theorem kept_c (bb : Nat) (L A : Option Addr) (cL cap : Nat) (G : Nat → Nat) (ss : List (List Int)) (w : World) (hm : MkW bb w (.slice L ss.length cL) G ss) (hs : Ss w A cap ss) (hl : ∀ s ∈ ss, s.length ≤ 4294967296) (hn : ss.length ≤ 4294967296) :
    Calls Tryd.prog 15 #[.slice L ss.length cL, .slice A ss.length cap] w (fun e w' => e = .returned (.bool true) ∧ Dr w w') := by
  obtain ⟨n, hn'⟩ : ∃ n, n = ss.length := ⟨_, rfl⟩
  have HN := Lib.hid hn'
  rw [← hn'] at hn hm ⊢
  have nn : ((n : Int) != (n : Int)) = false := by simp
  clear hn'
  go_enter Tryd.func15, Tryd.ntmps15
  go_wp2_with fail
  go_loopw [5] (fun t wr => ∃ i : Nat, i ≤ n ∧ t = .int .i64 (i : Int) ∧ Dr w wr) (fun t _ => n - (intOf t).toNat)
  case atStart => exact ⟨0, by omega, rfl, .refl _⟩
  case round =>
    obtain ⟨i, hi, rfl, nd, rfl⟩ := hrel
    by_cases hlt : i < n
    · have hd : decide ((i : Int) < (n : Int)) = true := decide_eq_true (by omega)
      have hii : (i : Int) < (n : Int) := by omega
      have hiS : i < ss.length := by rw [← HN.out]; exact hlt
      obtain ⟨g, rfl, _, cell⟩ := hm.place (i := i) hiS
      obtain ⟨b, off, rfl, hc⟩ := hs.at_ (by omega)
      have ck := hc i hiS
      obtain ⟨s, hsd⟩ : ∃ s, s = ss.getD i [] := ⟨_, rfl⟩
      have hkb := (hm.blk i hiS).2
      have us : U8 s := by rw [hsd]; exact hs.u8 _ (getD_mem hiS)
      rw [show ss[i] = s by rw [hsd, List.getD_eq_getElem?_getD, List.getElem?_eq_getElem hiS]; rfl] at ck
      rw [← hsd] at cell hkb
      have sl : s.length ≤ 4294967296 := by rw [hsd]; exact hl _ (getD_mem hiS)
      have sw : Sl .u8 w (some ⟨G i, 0, none⟩) (s.length + 70) s := by
        have := hkb.sl s.length (s.length + 70) (by omega) (by omega)
        rwa [List.take_left] at this
      have hcv := fun m => run_str_of (P := Tryd.prog) (w.drewN m) 25 9 5 Tryd.underlying25 Tryd.underlying5 Tryd.underlying9 s.length rfl (sw.drewN m)
      have se := str_eq us us
      rw [decide_eq_true (rfl : s = s)] at se
      obtain ⟨m, hmn⟩ : ∃ m, m = s.length := ⟨_, rfl⟩
      have hcut := fun W => run_to (P := Tryd.prog) W 25 5 Tryd.underlying25 size8 (some ⟨G i, 0, none⟩) m (m + 70) (m + 70) (Nat.le_refl _) ((m : Int) + 70) (by omega)
      have MK : Hid (∀ q, q < 70 → w.cell? ⟨G i, m + q, none⟩ = some (.int .u8 (mk36 i))) := Lib.hid fun q hq => by
        have := hkb.cell (m + q) (by rw [List.length_append, mks36_len]; omega)
        rw [this, hmn, nth_append_right]
        unfold mks36
        rw [nth_replicate _ _ _ hq]
      rw [← hmn] at cell hcv sl
      clear hc hkb sw hiS hsd hmn
      go_wp2_with fail
      go_quiet (fail)
      go_wp2_with fail
      go_quiet (fail)
      go_wp2_with fail
      go_loopw [7] (fun t wr => ∃ q : Nat, q ≤ 70 ∧ t = .int .i64 ((m + q : Nat) : Int) ∧ Dr w wr) (fun t _ => m + 70 - (intOf t).toNat)
      case atStart => exact ⟨0, by omega, by rw [Nat.add_zero], (by repeat (first | exact Dr.refl _ | apply Dr.drewN))⟩
      case round =>
        obtain ⟨q, hq, rfl, nd2, rfl⟩ := hrel
        obtain ⟨j, hj⟩ : ∃ j, j = m + q := ⟨_, rfl⟩
        rw [← hj]
        have HJ := Lib.hid hj
        by_cases hq70 : q < 70
        · have ckm := MK.out q hq70
          rw [← hj] at ckm
          obtain ⟨y, hy⟩ : ∃ y, y = mk36 i := ⟨_, rfl⟩
          rw [← hy] at ckm
          have ye : (1 : Int) + ((i : Int) % 250) = y := by rw [hy]; unfold mk36; omega
          have yw : IntKind.u8.wrap y = y := by rw [IntKind.wrap_u8', hy]; have := mk36_rng i; omega
          have yy : (y != y) = false := by simp
          have hji : (j : Int) < (m : Int) + 70 := by omega
          have hjn : j < m + 70 := by omega
          have hd3 : decide ((j : Int) < (m : Int) + 70) = true := decide_eq_true hji
          have hd4 : decide (j < m + 70) = true := decide_eq_true hjn
          clear hy hj
          go_wp2_with fail
          go_roundw
          case rel => exact ⟨q + 1, by omega, by have := HJ.out; go_num, (by repeat (first | exact Dr.refl _ | apply Dr.drewN))⟩
          case measure => have := HJ.out; simp [intOf]; omega
        · have hji : ¬ (j : Int) < (m : Int) + 70 := by omega
          have hjn : ¬ j < m + 70 := by omega
          have hd3 : decide ((j : Int) < (m : Int) + 70) = false := decide_eq_false hji
          have hd4 : decide (j < m + 70) = false := decide_eq_false hjn
          clear hj
          go_wp2_with fail
          go_roundw
          case rel => exact ⟨i + 1, by omega, by go_num, (by repeat (first | exact Dr.refl _ | apply Dr.drewN))⟩
          case measure => simp [intOf]; omega
    · obtain rfl : i = n := by omega
      have hd : decide ((i : Int) < (i : Int)) = false := by simp
      go_wp2_with fail
      go_ret
      exact ⟨rfl, (by repeat (first | exact Dr.refl _ | apply Dr.drewN))⟩
end Go.Proofs.YtmbifokiebjmmaaDoor
/- signetlaw36: texts, same, all1, spoil by their contracts. (Printed by gen_loge.py.) -/
set_option linter.unusedVariables false
set_option linter.unusedSimpArgs false
namespace Go.Sg
open Go.RowKit
/-- What was there stays, but for n lists' blocks. -/
def FrV (V : Nat → Value) (n : Nat) (w w' : World) : Prop := w.heap.size ≤ w'.heap.size ∧ ∀ c, c < w.heap.size → (∀ j, j < n → (V j).ownBlock ≠ some c) → w'.heap[c]? = w.heap[c]?
theorem FrV.refl (V : Nat → Value) (n : Nat) (w : World) : FrV V n w w := ⟨Nat.le_refl _, fun _ _ _ => rfl⟩
theorem FrV.below {V : Nat → Value} {n : Nat} {w w' w'' : World} (h : FrV V n w w') (hb : Below w'.heap.size w' w'') : FrV V n w w'' :=
  ⟨Nat.le_trans h.1 hb.size, fun c hc hj => (hb.block c (Nat.lt_of_lt_of_le hc h.1)).trans (h.2 c hc hj)⟩
theorem FrV.drewN {V : Nat → Value} {n : Nat} {w w' : World} (h : FrV V n w w') (k : Nat) : FrV V n w (w'.drewN k) := h
theorem FrV.grown {V : Nat → Value} {n : Nat} {w w' w'' : World} {row : Option Nat} (h : FrV V n w w') (hg : w'.grownBy w'' row) (hr : ∀ g, row = some g → w.heap.size ≤ g ∨ ∃ j, j < n ∧ (V j).ownBlock = some g) : FrV V n w w'' :=
  ⟨Nat.le_trans h.1 hg.size, fun c hc hj => (hg.block c (Nat.lt_of_lt_of_le hc h.1) (fun e => by
    rcases hr c e.symm with h1 | ⟨j, h1, h2⟩
    · omega
    · exact hj j h1 h2)).trans (h.2 c hc hj)⟩
theorem FrV.row {V : Nat → Value} {n : Nat} {w w' : World} {B : Nat} {E : TypeId} {v : Value} {vs : List Value} (h : FrV V n w w') (hv : NewV B E w v vs) (ha : ∀ j, j < n → ∀ g, (V j).ownBlock = some g → some g ≠ v.ownBlock) : NewV B E w' v vs :=
  NewV.by_blocks hv fun c hc => h.2 c (hv.lt c hc).2 fun j hj e => ha j hj c e hc.symm
theorem strs_ext {a b : List (List Int)} {n : Nat} (ha : a.length = n) (hb : b.length = n) (h : ∀ j (h1 : j < a.length) (h2 : j < b.length), a[j] = b[j]) : a = b := List.ext_getElem (by omega) h
/-- A byte of a place. -/
def byt (i : Nat) : Int := ((i % 256 : Nat) : Int)
theorem byt_wrap (i : Nat) : IntKind.u8.wrap (i : Int) = byt i := by
  rw [IntKind.wrap_u8]
  unfold byt
  omega
theorem byt_mod (i : Nat) : (i : Int) % 256 = byt i := by unfold byt; omega
end Go.Sg
namespace Go.Proofs.YtmbifokiebjmmaaDoor
open Go.RowKit Go.Sg

theorem info8S : (Tryd.prog.info? 5).map (fun i => (i.zero, i.size, i.bytes)) = some (some (.int .u8 0), 1, 1) := by kernel_rfl
set_option maxHeartbeats 16000000 in
set_option maxRecDepth 20000 in
theorem textsR_c (A : Option Addr) (cap : Nat) (ps : List Part) (w : World) (hr : Rows_ w A ps) (hl : ∀ p ∈ ps, p.xs.length ≤ 4294967296) (hn : ps.length ≤ 4294967296) :
    Calls Tryd.prog 35 #[.slice A ps.length cap] w (TextsOut (ps.map (·.xs)) w) := by
  obtain ⟨n, hn'⟩ : ∃ n, n = ps.length := ⟨_, rfl⟩
  have HN := Lib.hid hn'
  rw [← hn'] at hn ⊢
  clear hn'
  go_enter Tryd.func35, Tryd.ntmps35
  go_wp2_with fail
  go_loopw [3, 4] (fun v t wr => ∃ k : Nat, k ≤ n ∧ t = .int .i64 (k : Int) ∧ NewV w.heap.size 9 wr v (((ps.take k).map (·.xs)).map str) ∧ Below w.heap.size w wr) (fun _ t _ => n - (intOf t).toNat)
  case atStart => exact ⟨0, by omega, rfl, .nil _ _ _, .refl _ _⟩
  case round =>
    obtain ⟨k, hk, rfl, hv, hb⟩ := hrel
    obtain ⟨av, cv, rfl⟩ := hv.sl
    have lk : (((ps.take k).map (·.xs)).map str).length = k := by rw [List.length_map, List.length_map, List.length_take, ← HN.out]; omega
    rw [lk] at hv ⊢
    have LK := Lib.hid lk
    clear lk
    by_cases hlt : k < n
    · have hd : decide ((k : Int) < (n : Int)) = true := decide_eq_true (by omega)
      have hki : (k : Int) < (n : Int) := by omega
      obtain ⟨b, off, rfl, hc⟩ := (hr.below hb).at_ (by have := HN.out; omega)
      have cell := hc k (by have := HN.out; omega)
      obtain ⟨p, hp⟩ : ∃ p, p = ps[k]'(by have := HN.out; omega) := ⟨_, rfl⟩
      have hmem : p ∈ ps := by rw [hp]; exact List.getElem_mem _
      have sw := (hr.below hb).sl p hmem
      rw [← hp] at cell
      unfold Part.val at cell
      obtain ⟨s, hs⟩ : ∃ s, s = p.xs := ⟨_, rfl⟩
      rw [← hs] at cell sw
      have et : Hid (((ps.take (k + 1)).map (·.xs)).map str = ((ps.take k).map (·.xs)).map str ++ [str s]) := Lib.hid (by
        rw [List.take_add_one, List.getElem?_eq_getElem (by rw [← HN.out]; exact hlt), hs, hp]
        simp only [Option.toList_some, List.map_append, List.map_cons, List.map_nil])
      have sl : s.length ≤ 4294967296 := by rw [hs]; exact hl _ hmem
      have hcv := run_str_of (P := Tryd.prog) wr 25 9 5 Tryd.underlying25 Tryd.underlying5 Tryd.underlying9 s.length rfl sw
      have al := (Below.refl wr.heap.size wr).alloc (Nat.le_refl _) (.cells #[str s] 9)
      have hv1 := hv.keep al
      have hB1 := hb.trans (al.mono hb.size)
      have lv := fun g hg => (hv.lt g hg).1
      obtain ⟨Z, hZ⟩ : ∃ z, z = (((ps.take k).map (·.xs)).map str) := ⟨_, rfl⟩
      rw [← hZ] at hv1 LK et
      clear hp hs sw hv hb al hc hZ
      go_wp2_with (at_builtin; refine wpList_append_newX _ rfl _ _ 22 rfl w.heap.size 9 16 (str []) rfl Tryd.underlying22 infoS _ _ rfl hv1 _ 1 (str s) rfl rfl (cell_new1 _ _ _ _) (by rw [LK.out]; omega) (by rw [LK.out]; omega) hB1.size ?_)
      intro v' w2 hv2 hg2 ho2
      have hB2 := hB1.grown hg2 hB1.size lv
      clear hv1 hg2 ho2 hB1 hcv
      go_wp2_with fail
      go_roundw
      case rel => exact ⟨k + 1, by omega, by go_num, by rw [et.out]; exact hv2, hB2⟩
      case measure => simp [intOf]; omega
    · obtain rfl : k = n := by omega
      have hd : decide ((k : Int) < (k : Int)) = false := by simp
      rw [List.take_of_length_le (by rw [← HN.out]; omega)] at hv
      go_wp2_with fail
      go_ret
      exact ⟨_, rfl, hv, hb⟩

set_option maxHeartbeats 16000000 in
set_option maxRecDepth 20000 in
theorem same36_c (A B : Option Addr) (ca cb : Nat) (a b : List (List Int)) (w : World) (sa : Ss w A ca a) (sb : Ss w B cb b) :
    Calls Tryd.prog 34 #[.slice A a.length ca, .slice B b.length cb] w (fun e w' => e = .returned (.bool (decide (a = b))) ∧ Dr w w') := by
  obtain ⟨n, hn'⟩ : ∃ n, n = a.length := ⟨_, rfl⟩
  obtain ⟨m, hm'⟩ : ∃ n, n = b.length := ⟨_, rfl⟩
  have HN := Lib.hid hn'
  have HM := Lib.hid hm'
  have nm : n ≤ 9223372036854775807 := by have := sa.le; have := sa.max; omega
  rw [← hn', ← hm']
  clear hn' hm'
  obtain ⟨R, hR⟩ : ∃ r, r = decide (a = b) := ⟨_, rfl⟩
  have HR := Lib.hid hR
  rw [← hR]
  clear hR
  by_cases hnm : n = m
  · subst hnm
    have nn : ((n : Int) != (n : Int)) = false := by simp
    go_enter Tryd.func34, Tryd.ntmps34
    go_wp2_with fail
    go_loopw [5] (fun t wr => ∃ i : Nat, i ≤ n ∧ t = .int .i64 (i : Int) ∧ Hid (∀ j (h1 : j < a.length) (h2 : j < b.length), j < i → a[j] = b[j]) ∧ Dr w wr) (fun t _ => n - (intOf t).toNat)
    case atStart => exact ⟨0, by omega, rfl, Lib.hid (fun j _ _ h => by omega), .refl _⟩
    case round =>
      obtain ⟨i, hi, rfl, HE, nd, rfl⟩ := hrel
      by_cases hlt : i < n
      · have hd : decide ((i : Int) < (n : Int)) = true := decide_eq_true (by omega)
        have hi2 : (i : Int) < (n : Int) := by omega
        obtain ⟨b1, o1, rfl, hc1⟩ := sa.at_ (by have := HN.out; omega)
        obtain ⟨b2, o2, rfl, hc2⟩ := sb.at_ (by have := HM.out; omega)
        have c1 := hc1 i (by have := HN.out; omega)
        have c2 := hc2 i (by have := HM.out; omega)
        obtain ⟨x, hx⟩ : ∃ x, x = a[i]'(by have := HN.out; omega) := ⟨_, rfl⟩
        obtain ⟨y, hy⟩ : ∃ x, x = b[i]'(by have := HM.out; omega) := ⟨_, rfl⟩
        have ux : U8 x := by rw [hx]; exact sa.u8 _ (List.getElem_mem _)
        have uy : U8 y := by rw [hy]; exact sb.u8 _ (List.getElem_mem _)
        rw [← hx] at c1
        rw [← hy] at c2
        have se := str_eq ux uy
        have HXY := Lib.hid (And.intro hx hy)
        clear hc1 hc2 hx hy
        by_cases hxy : x = y
        · subst hxy
          rw [decide_eq_true (show x = x from rfl)] at se
          go_wp2_with fail
          go_quiet (fail)
          go_wp2_with fail
          go_roundw
          case rel =>
            refine ⟨i + 1, by omega, by go_num, Lib.hid (fun j h1 h2 h => ?_), (by repeat (first | exact Dr.refl _ | apply Dr.drewN))⟩
            by_cases c : j < i
            · exact HE.out j h1 h2 c
            · obtain rfl : j = i := by omega
              rw [← HXY.out.1, ← HXY.out.2]
          case measure => simp [intOf]; omega
        · rw [decide_eq_false hxy] at se
          have er : R = false := by
            rw [HR.out]
            refine decide_eq_false fun e => hxy ?_
            rw [HXY.out.1, HXY.out.2]
            exact List.getElem_of_eq e _
          clear hxy
          go_wp2_with fail
          go_quiet (fail)
          go_wp2_with fail
          go_ret
          exact ⟨by rw [er]; rfl, (by repeat (first | exact Dr.refl _ | apply Dr.drewN))⟩
      · obtain rfl : i = n := by omega
        have hd : decide ((i : Int) < (i : Int)) = false := by simp
        have er : R = true := by
          rw [HR.out]
          exact decide_eq_true (List.ext_getElem (by rw [← HN.out, ← HM.out]) fun j h1 h2 => HE.out j h1 h2 (by rw [HN.out]; exact h1))
        go_wp2_with fail
        go_ret
        exact ⟨by rw [er]; rfl, (by repeat (first | exact Dr.refl _ | apply Dr.drewN))⟩
  · have nn : ((n : Int) != (m : Int)) = true := by simp; omega
    have er : R = false := by
      rw [HR.out]
      refine decide_eq_false fun e => hnm ?_
      rw [HN.out, HM.out, e]
    go_enter Tryd.func34, Tryd.ntmps34
    go_wp2_with fail
    go_ret
    exact ⟨by rw [er]; rfl, .refl _⟩

/-- A row whose places are slices of m. -/
def LenRow (w : World) (a : Option Addr) (n m : Nat) : Prop := 0 < n → ∃ b off, a = some ⟨b, off, none⟩ ∧ ∀ j, j < n → ∃ x c, w.cell? ⟨b, off + j, none⟩ = some (.slice x m c)
set_option maxHeartbeats 4000000 in
set_option maxRecDepth 20000 in
theorem all1_c (a : Option Addr) (n c m : Nat) (w : World) (hl : LenRow w a n m) (hn : n ≤ 4294967296) :
    Calls Tryd.prog 45 #[.slice a n c, .int .i64 (m : Int)] w (fun e w' => e = .returned (.bool true) ∧ Dr w w') := by
  have mm : ((m : Int) != (m : Int)) = false := by simp
  go_enter Tryd.func45, Tryd.ntmps45
  go_wp2_with fail
  go_loopw [5] (fun t wr => ∃ i : Nat, i ≤ n ∧ t = .int .i64 (i : Int) ∧ Dr w wr) (fun t _ => n - (intOf t).toNat)
  case atStart => exact ⟨0, by omega, rfl, .refl _⟩
  case round =>
    obtain ⟨i, hi, rfl, nd, rfl⟩ := hrel
    by_cases hlt : i < n
    · have hd : decide ((i : Int) < (n : Int)) = true := decide_eq_true (by omega)
      have hi2 : (i : Int) < (n : Int) := by omega
      obtain ⟨b, off, rfl, hc⟩ := hl (by omega)
      obtain ⟨x, c', cell⟩ := hc i hlt
      clear hc
      go_wp2_with fail
      go_roundw
      case rel => exact ⟨i + 1, by omega, by go_num, (by repeat (first | exact Dr.refl _ | apply Dr.drewN))⟩
      case measure => simp [intOf]; omega
    · obtain rfl : i = n := by omega
      have hd : decide ((i : Int) < (i : Int)) = false := by simp
      go_wp2_with fail
      go_ret
      exact ⟨rfl, (by repeat (first | exact Dr.refl _ | apply Dr.drewN))⟩

def SpoilPost (B n : Nat) (V : Nat → Value) (w : World) (e : Ending) (w' : World) : Prop := e = .returned (.bool true) ∧ FrV V n w w' ∧ Below B w w'
set_option maxHeartbeats 16000000 in
set_option maxRecDepth 20000 in
theorem spoil_c (B n : Nat) (l : Option Addr) (c : Nat) (V : Nat → Value) (A : Nat → List Int) (w : World) (hL : Lists B .u8 5 25 w (.slice l n c) n V A) (hn : n ≤ 4294967296) (hA : ∀ j, j < n → (A j).length ≤ 4294967296) (hB : B ≤ w.heap.size) :
    Calls Tryd.prog 44 #[.slice l n c] w (SpoilPost B n V w) := by
  have BW := byt_wrap
  have BM := byt_mod
  have hL0 := hL.congr (A' := fillF byt A 0 0) (fun j _ => (fillF_start byt A j).symm)
  have LENS := Lib.hid hA
  have HBW := Lib.hid hB
  clear hL hA hB
  go_enter Tryd.func44, Tryd.ntmps44
  go_wp2_with fail
  go_loopw [4] (fun t wr => ∃ i : Nat, i ≤ n ∧ t = .int .i64 (i : Int) ∧ Lists B .u8 5 25 wr (.slice l n c) n V (fillF byt A i 0) ∧ FrV V n w wr ∧ Below B w wr) (fun t _ => n - (intOf t).toNat)
  case atStart => exact ⟨0, by omega, rfl, hL0, .refl _ _ _, .refl _ _⟩
  case round =>
    clear hL0
    obtain ⟨i, hi, rfl, hL, hF, hB2⟩ := hrel
    by_cases hlt : i < n
    · have hd : decide ((i : Int) < (n : Int)) = true := decide_eq_true (by omega)
      have hi10 : (i : Int) < (n : Int) := by omega
      obtain ⟨zi, hzi⟩ : ∃ z, z = (A i).length := ⟨_, rfl⟩
      have HZI := Lib.hid hzi
      have zb : zi ≤ 4294967296 := by rw [hzi]; exact LENS.out i hlt
      obtain ⟨ai, ci, hVi, _, _⟩ := hL.fam.own hlt
      rw [fillF_len _ _ _ _ _ (by omega), ← hzi] at hVi
      have HV := Lib.hid hVi
      obtain ⟨w13, rfl⟩ : ∃ x, x = wr := ⟨_, rfl⟩
      clear hzi hVi hd
      have hd : decide ((i : Int) < (n : Int)) = true := decide_eq_true (by omega)
      go_wp2_with fail
      go_loopw [5] (fun t wr => ∃ k : Nat, k ≤ zi ∧ t = .int .i64 (k : Int) ∧ Lists B .u8 5 25 wr (.slice l n c) n V (fillF byt A i k) ∧ FrV V n w wr ∧ Below B w wr) (fun t _ => zi - (intOf t).toNat)
      case atStart => exact ⟨0, by omega, rfl, hL, hF, hB2⟩
      case round =>
        clear hL hF hB2
        obtain ⟨k, hk, rfl, hL, hF, hB2⟩ := hrel
        obtain ⟨gl, rfl, cell⟩ := hL.row.place hlt
        rw [HV.out] at cell
        by_cases hkl : k < zi
        · have hdk : decide ((k : Int) < (zi : Int)) = true := decide_eq_true (by omega)
          have hkz : (k : Int) < (zi : Int) := by omega
          obtain ⟨g, c2, hv2, hfr, hcl, hg, hL2⟩ := hL.put (by decide) hlt (j := k) (by rw [fillF_len _ _ _ _ _ (by rw [← HZI.out]; omega), ← HZI.out]; exact hkl) (byt i)
          rw [HV.out] at hv2
          simp only [Value.slice.injEq] at hv2
          obtain ⟨rfl, _, rfl⟩ := hv2
          have hL3 := hL2.congr (A' := fillF byt A i (k + 1)) (fun j _ => fillF_step byt A i k (by rw [← HZI.out]; exact hkl) j)
          have hF3 := hF.grown (grownBy_set _ ⟨g, k, none⟩ (.int .u8 (byt i))) (fun g' hg' => .inr ⟨i, hlt, by cases hg'; rw [HV.out]; rfl⟩)
          have hB3 := hB2.setCell (p := ⟨g, k, none⟩) hg (.int .u8 (byt i))
          clear hL hL2 hF hB2
          go_wp2_with fail
          go_roundw
          case rel => exact ⟨k + 1, by omega, by go_num, hL3, hF3, hB3⟩
          case measure => simp [intOf]; omega
        · obtain rfl : zi = k := by omega
          have hdk : decide ((zi : Int) < (zi : Int)) = false := by simp
          have hL3 := hL.congr (A' := fillF byt A (i + 1) 0) (fun j _ => by rw [HZI.out]; exact fillF_next byt A i j)
          go_wp2_with fail
          go_roundw
          case rel => exact ⟨i + 1, by omega, by go_num, hL3, hF, hB2⟩
          case measure => simp [intOf]; omega
    · have hd : decide ((i : Int) < (n : Int)) = false := decide_eq_false (by omega)
      obtain rfl : i = n := by omega
      clear hd
      have hd : decide ((i : Int) < (i : Int)) = false := by simp
      obtain ⟨A2, hA2⟩ : ∃ f : Nat → List Int, f = fun j => List.replicate (A j).length (byt j) := ⟨_, rfl⟩
      have hLA := hL.congr (A' := A2) (fun j hj => by unfold fillF; rw [if_pos hj, hA2])
      have HA2 := Lib.hid hA2
      have lA2 : Hid (∀ j, j < i → (A2 j).length ≤ 4294967296) := Lib.hid fun j hj => by rw [hA2]; simp only [List.length_replicate]; exact LENS.out j hj
      obtain ⟨w14, rfl⟩ : ∃ x, x = wr := ⟨_, rfl⟩
      obtain ⟨S, hS⟩ : ∃ x, x = w14.heap.size := ⟨_, rfl⟩
      have fm := hLA.fam.fam (S := S) (Nat.le_of_eq hS.symm)
      have fm0 := fm.congr (U' := V) (A' := A2) (X' := growF byt 70 0 0) (fun _ _ => rfl) (fun j _ => (growF_start _ _ j).symm) (fun _ _ => rfl)
      have rw0 := hLA.row
      have hSw : S ≤ w14.heap.size := Nat.le_of_eq hS
      have hwS : w.heap.size ≤ S := by rw [hS]; exact hF.1
      have LT := Lib.hid hLA.row.lt
      have HLS : Hid (∀ g, (Value.slice l i c).ownBlock = some g → g < S) := Lib.hid fun g hg => by rw [hS]; exact (LT.out g hg).2
      clear hL hLA fm hA2 hS LENS LT
      go_wp2_with fail
      go_loopw [3, 6] (fun mo t wr => ∃ (j0 : Nat) (U : Nat → Value), j0 ≤ i ∧ t = .int .i64 (j0 : Int) ∧ Fam S B .u8 5 wr i V U A2 (growF byt 70 j0 0) ∧ Hid (∀ j, j0 ≤ j → U j = V j) ∧ NewV S 25 wr mo ((List.range j0).map U) ∧ NewV B 25 wr (.slice l i c) ((List.range i).map V) ∧ FrV V i w wr ∧ Below B w wr ∧ S ≤ wr.heap.size) (fun _ t _ => i - (intOf t).toNat)
      case atStart => exact ⟨0, V, by omega, rfl, fm0, Lib.hid (fun _ _ => rfl), .nil _ _ _, rw0, hF, hB2, hSw⟩
      case round =>
        clear fm0 rw0 hF hB2 hSw hd
        obtain ⟨j0, U, hi, rfl, fm, hUV, hM, hR, hF, hB2, hSw⟩ := hrel
        obtain ⟨amo, cmo, rfl⟩ := hM.sl
        rw [List.length_map, List.length_range] at hM ⊢
        by_cases hlt : j0 < i
        · have hd : decide ((j0 : Int) < (i : Int)) = true := decide_eq_true (by omega)
          have hi10 : (j0 : Int) < (i : Int) := by omega
          obtain ⟨gl, rfl, cell⟩ := hR.place hlt
          obtain ⟨ai, ci, hVi, _, _⟩ := (fm.ext j0 hlt).sa
          rw [hVi] at cell
          obtain ⟨us, hus⟩ : ∃ us, us = (List.range j0).map U := ⟨_, rfl⟩
          rw [← hus] at hM
          have HUS := Lib.hid hus
          have lus : Hid (us.length = j0) := Lib.hid (by rw [hus]; simp)
          obtain ⟨w15, rfl⟩ : ∃ x, x = wr := ⟨_, rfl⟩
          clear hus
          go_wp2_with fail
          go_loopw [7, 8] (fun v t wr => ∃ (k : Nat) (U2 : Nat → Value), k ≤ 70 ∧ t = .int .i64 (k : Int) ∧ v = U2 j0 ∧ Fam S B .u8 5 wr i V U2 A2 (growF byt 70 j0 k) ∧ Hid (∀ j, j0 < j → U2 j = V j) ∧ Hid (∀ j, j < j0 → U2 j = U j) ∧ NewV S 25 wr (.slice amo j0 cmo) us ∧ NewV B 25 wr (.slice (some ⟨gl, 0, none⟩) i c) ((List.range i).map V) ∧ FrV V i w wr ∧ Below B w wr ∧ S ≤ wr.heap.size) (fun _ t _ => 70 - (intOf t).toNat)
          case atStart => exact ⟨0, U, by omega, rfl, by rw [hUV.out j0 (Nat.le_refl _), hVi], fm, Lib.hid (fun j hj => hUV.out j (by omega)), Lib.hid (fun _ _ => rfl), hM, hR, hF, hB2, hSw⟩
          case round =>
            clear fm hM hR hF hB2 hSw cell
            obtain ⟨k, U2, hk, rfl, rfl, fm, hUV2, hUU, hM, hR, hF, hB2, hSw⟩ := hrel
            have ex := fm.ext j0 hlt
            obtain ⟨av, cv, hv, _⟩ := ex.nx.sl
            rw [growF_at] at hv
            obtain ⟨lv, hlv⟩ : ∃ x, x = (A2 j0 ++ List.replicate k (byt j0)).length := ⟨_, rfl⟩
            rw [← hlv] at hv
            have lvb : lv ≤ 4294967366 := by rw [hlv, List.length_append, List.length_replicate]; have := lA2.out j0 hlt; omega
            rw [hv]
            have HLV := Lib.hid hlv
            have HVV := Lib.hid hv
            have HOW := Lib.hid ex.own
            have HOL := Lib.hid ex.old
            clear hv hlv ex
            by_cases hkl : k < 70
            · have hdk : decide ((k : Int) < 70) = true := decide_eq_true (by omega)
              have al := (Below.refl wr.heap.size wr).alloc (Nat.le_refl _) (.cells #[.int .u8 (byt j0)] 5)
              have as1 : (wr.alloc (.cells #[.int .u8 (byt j0)] 5)).heap.size = wr.heap.size + 1 := by simp
              have fm1 := fm.keep al
              have hM1 := hM.keep al
              have hR1 := hR.keep al
              have hF1 := hF.below al
              have hB1 := hB2.trans (al.mono (Nat.le_trans HBW.out (Nat.le_trans hwS hSw)))
              have nx := (fm1.ext j0 hlt).nx
              rw [growF_at, HVV.out] at nx
              have hlen : (A2 j0 ++ List.replicate k (byt j0)).length ≤ 4294967366 := by rw [← HLV.out]; exact lvb
              have hBS : B ≤ wr.heap.size + 1 := by have := HBW.out; omega
              clear fm hM hR hF hB2
              go_wp2_with (at_builtin; refine wpList_append_keep _ rfl _ _ 25 rfl B 5 .u8 1 Tryd.underlying25 info8S _ _ rfl nx _ _ 1 [byt j0] rfl rfl (cells_one _ _ _ _ _ rfl) (by simp only [List.length_singleton]; omega) (by simp only [List.length_singleton]; omega) (by rw [as1]; omega) ?_)
              intro u' w16 n1 n0 hg16 ho16
              have fm16 := fm1.append hlt (u' := u') (ys := [byt j0]) (by rw [growF_at, List.append_assoc]; exact n1) (by rw [growF_at, HVV.out]; exact n0) (by rw [HVV.out]; exact hg16) (by rw [HVV.out, as1]; exact ho16) (by rw [as1]; omega)
              have fm17 := fm16.congr (U' := fun m => if m = j0 then u' else U2 m) (A' := A2) (X' := growF byt 70 j0 (k + 1)) (fun _ _ => rfl) (fun j _ => growF_step byt 70 j0 k j) (fun _ _ => rfl)
              have hM16 := hM1.keptN nx (by decide) hg16
              have hR16 := hR1.keptN nx (by decide) hg16
              have hF16 := hF1.grown hg16 (fun g hg => by
                rcases HOW.out g (by rw [HVV.out]; exact hg) with h1 | h1
                · exact .inr ⟨j0, hlt, h1⟩
                · exact .inl (by omega))
              have hB16 := hB1.grown hg16 (by rw [as1]; exact hBS) (fun g hg => (nx.lt g hg).1)
              have hz16 := hg16.size
              clear fm1 fm16 hM1 hR1 hF1 hB1 nx n1 n0 hg16 ho16 al
              go_wp2_with fail
              go_roundw
              case rel =>
                exact ⟨k + 1, fun m => if m = j0 then u' else U2 m, by omega, by go_num, by simp, fm17, Lib.hid (fun j hj => by simp only [show ¬ j = j0 by omega, if_false]; exact hUV2.out j hj), Lib.hid (fun j hj => by simp only [show ¬ j = j0 by omega, if_false]; exact hUU.out j hj), hM16, hR16, hF16, hB16, by omega⟩
              case measure => simp [intOf]; omega
            · obtain rfl : k = 70 := by omega
              rw [show ((70 : Nat) : Int) = 70 from rfl]
              have hdk : decide ((70 : Int) < 70) = false := by decide
              have fm2 := fm.congr (U' := U2) (A' := A2) (X' := growF byt 70 (j0 + 1) 0) (fun _ _ => rfl) (fun j _ => growF_next _ _ j0 j) (fun _ _ => rfl)
              have al := (Below.refl wr.heap.size wr).alloc (Nat.le_refl _) (.cells #[.slice av lv cv] 25)
              have as1 : (wr.alloc (.cells #[.slice av lv cv] 25)).heap.size = wr.heap.size + 1 := by simp
              have fm3 := fm2.keep al
              have hM3 := hM.keep al
              have hR3 := hR.keep al
              have hF3 := hF.below al
              have hB3 := hB2.trans (al.mono (Nat.le_trans HBW.out (Nat.le_trans hwS hSw)))
              have hBS : B ≤ wr.heap.size + 1 := by have := HBW.out; omega
              clear fm fm2 hM hR hF hB2 hkl
              go_wp2_with (at_builtin; refine wpList_append_newV _ rfl _ _ 23 rfl S 25 24 Tryd.underlying23 infoL _ us rfl hM3 _ 1 (.slice av lv cv) ⟨_, _, _, rfl⟩ rfl (cell_new1 _ _ _ _) (by rw [lus.out]; omega) (by rw [lus.out]; omega) (by rw [as1]; omega) ?_)
              intro mo' w17 hM17 hg17 ho17
              have hMl : ∀ g, (Value.slice amo j0 cmo).ownBlock = some g → S ≤ g := fun g hg => (hM3.lt g hg).1
              have fm17 := fm3.grown hg17 (fun j hj g hg e => by
                have h1 := ((fm3.ext j hj).old g hg).1
                have h2 := hMl g e.symm
                omega) (fun j hj g hg => hM3.aside' (fm3.ext j hj).nx (by decide) g hg)
              have hR17 := hR3.kept hg17 (.inr fun e => by
                have h2 := hMl gl (e.symm.trans rfl)
                have h3 := HLS.out gl rfl
                omega)
              have hF17 := hF3.grown hg17 (fun g hg => .inl (Nat.le_trans hwS (hMl g hg)))
              have hB17 := hB3.grown hg17 (by rw [as1]; exact hBS) (fun g hg => Nat.le_trans HBW.out (Nat.le_trans hwS (hMl g hg)))
              have hz17 := hg17.size
              have el : us ++ [Value.slice av lv cv] = (List.range (j0 + 1)).map U2 := by
                rw [range_push (V := U) (V' := U2) (v := .slice av lv cv) hUU.out HVV.out, ← HUS.out]
              rw [el] at hM17
              clear fm3 hM3 hR3 hF3 hB3 hg17 al
              go_wp2_with fail
              go_roundw
              case rel => exact ⟨j0 + 1, U2, by omega, by go_num, fm17, Lib.hid (fun j hj => hUV2.out j (by omega)), hM17, hR17, hF17, hB17, by omega⟩
              case measure => simp [intOf]; omega
        · have hd : decide ((j0 : Int) < (i : Int)) = false := decide_eq_false (by omega)
          obtain rfl : j0 = i := by omega
          clear hd
          have hd : decide ((j0 : Int) < (j0 : Int)) = false := by simp
          obtain ⟨w18, rfl⟩ : ∃ x, x = wr := ⟨_, rfl⟩
          have FM := Lib.hid fm
          have ROWL : Hid (∀ i, i < j0 → ∃ g, l = some ⟨g, 0, none⟩ ∧ w18.cell? ⟨g, i, none⟩ = some (V i)) := Lib.hid fun i hi => hR.place hi
          have ROWM : Hid (∀ i, i < j0 → ∃ g, amo = some ⟨g, 0, none⟩ ∧ w18.cell? ⟨g, i, none⟩ = some (U i)) := Lib.hid fun i hi => hM.place hi
          have FF := Lib.hid hF
          have BB := Lib.hid hB2
          clear fm hM hR hUV hF hB2 hlt hi
          go_wp2_with fail
          go_loopw [9] (fun t wr => ∃ i : Nat, i ≤ j0 ∧ t = .int .i64 (i : Int) ∧ Dr w18 wr) (fun t _ => j0 - (intOf t).toNat)
          case atStart => exact ⟨0, by omega, rfl, .refl _⟩
          case round =>
            obtain ⟨i, hi, rfl, nd, rfl⟩ := hrel
            clear hd
            by_cases hlt : i < j0
            · have hd : decide ((i : Int) < (j0 : Int)) = true := decide_eq_true (by omega)
              have hi10 : (i : Int) < (j0 : Int) := by omega
              obtain ⟨ai, ci, hVi, sV, -⟩ := (FM.out.ext i hlt).sa
              obtain ⟨au, cu, hUi, sU, -⟩ := (FM.out.ext i hlt).nx.at_own
              obtain ⟨li, hli⟩ : ∃ z, z = (A i).length := ⟨_, rfl⟩
              have eA2 : A2 i = List.replicate li (byt i) := by rw [HA2.out, hli]
              have eX : growF byt 70 j0 0 i = List.replicate 70 (byt i) := by unfold growF; rw [if_pos hlt]
              have lib : li ≤ 4294967296 := by have := lA2.out i hlt; rw [eA2, List.length_replicate] at this; exact this
              rw [eA2, eX, List.length_append, List.length_replicate, List.length_replicate] at hUi
              rw [eA2, eX] at sU
              rw [eA2] at sV
              rw [eA2, List.length_replicate] at hVi
              obtain ⟨gl, rfl, cL⟩ := ROWL.out i hlt
              obtain ⟨gm, rfl, cM⟩ := ROWM.out i hlt
              rw [hVi] at cL
              rw [hUi] at cM
              have SV := Lib.hid sV
              have SU := Lib.hid sU
              have bb : (byt i != byt i) = false := by simp
              clear hVi hUi hli eA2 eX sV sU
              go_wp2_with fail
              go_loopw [10] (fun t wr => ∃ k : Nat, k ≤ li ∧ t = .int .i64 (k : Int) ∧ Dr w18 wr) (fun t _ => li - (intOf t).toNat)
              case atStart => exact ⟨0, by omega, rfl, nd, rfl⟩
              case round =>
                obtain ⟨k, hk, rfl, nd2, rfl⟩ := hrel
                by_cases hkl : k < li
                · have hdk : decide ((k : Int) < (li : Int)) = true := decide_eq_true (by omega)
                  have hkz : (k : Int) < (li : Int) := by omega
                  obtain ⟨bv, ov, rfl, hcv⟩ := SV.out.cells (by rw [List.length_replicate]; omega)
                  have cV := hcv k (by rw [List.length_replicate]; omega)
                  rw [rep_nth hkl] at cV
                  clear hcv
                  go_wp2_with fail
                  go_roundw
                  case rel => exact ⟨k + 1, by omega, by go_num, (by repeat (first | exact Dr.refl _ | apply Dr.drewN))⟩
                  case measure => simp [intOf]; omega
                · obtain rfl : k = li := by omega
                  have hdk : decide ((k : Int) < (k : Int)) = false := by simp
                  go_wp2_with fail
                  go_loopw [11] (fun t wr => ∃ q : Nat, k ≤ q ∧ q ≤ k + 70 ∧ t = .int .i64 (q : Int) ∧ Dr w18 wr) (fun t _ => k + 70 - (intOf t).toNat)
                  case atStart => exact ⟨k, by omega, by omega, rfl, nd2, rfl⟩
                  case round =>
                    clear hdk
                    obtain ⟨q, hq0, hq, rfl, nd3, rfl⟩ := hrel
                    by_cases hql : q < k + 70
                    · have hdq : decide ((q : Int) < ((k + 70 : Nat) : Int)) = true := decide_eq_true (by omega)
                      have hqi : (q : Int) < (k : Int) + 70 := by omega
                      have hqn : decide ((q : Int) < (k : Int) + 70) = true := decide_eq_true hqi
                      have hqm : decide (q < k + 70) = true := decide_eq_true hql
                      obtain ⟨bu, ou, rfl, hcu⟩ := SU.out.cells (by rw [List.length_append, List.length_replicate, List.length_replicate]; omega)
                      have cU := hcu q (by rw [List.length_append, List.length_replicate, List.length_replicate]; omega)
                      rw [grown_hi hq0 hql] at cU
                      clear hcu
                      go_wp2_with fail
                      go_roundw
                      case rel => exact ⟨q + 1, by omega, by omega, by go_num, (by repeat (first | exact Dr.refl _ | apply Dr.drewN))⟩
                      case measure => simp [intOf]; omega
                    · obtain rfl : q = k + 70 := by omega
                      have hdq : decide (((k + 70 : Nat) : Int) < ((k + 70 : Nat) : Int)) = false := by simp
                      go_wp2_with fail
                      go_roundw
                      case rel => exact ⟨i + 1, by omega, by go_num, (by repeat (first | exact Dr.refl _ | apply Dr.drewN))⟩
                      case measure => simp [intOf]; omega
            · have hd : decide ((i : Int) < (j0 : Int)) = false := decide_eq_false (by omega)
              obtain rfl : i = j0 := by omega
              clear hd
              have hd : decide ((i : Int) < (i : Int)) = false := by simp
              go_wp2_with fail
              go_ret
              exact ⟨rfl, FF.out.drewN _, below_drewN BB.out _⟩
end Go.Proofs.YtmbifokiebjmmaaDoor
/- Rows of slices of the call's own: an append that keeps the old slice, a store into a place, lists as parts. No program in sight. (Printed by gen_rowsk.py.) -/
set_option linter.unusedVariables false
set_option linter.unusedSimpArgs false
namespace Go.Sg
open Go.RowKit
theorem run_append_keepV {P : Program} (w : World) (B : Nat) (t ty e : TypeId) (bytes : Nat) (ht : P.underlying t = some (.slice e)) (hi : (P.info? e).map (fun i => (i.zero, i.size, i.bytes)) = some (some (.slice none 0 0), 1, bytes))
    (v : Value) (vs : List Value) (hv : NewV B e w v vs) (a : Addr) (c : Nat) (u : Value) (hone : ∃ a n c, u = .slice a n c) (hu : w.cell? a = some u) (hm : vs.length + 1 ≤ 9223372036854775807) (hbytes : (vs.length + 1) * bytes ≤ 140737488355328) (hB : B ≤ w.heap.size) :
    ∃ v' w', (Builtin.append_ #[t, t] ty #[v, .slice (some a) 1 c]).run P w = .ok v' w' ∧ NewV B e w' v' (vs ++ [u]) ∧ NewV B e w' v vs ∧ w.grownBy w' v.ownBlock ∧ (v'.ownBlock = v.ownBlock ∨ ∃ g, v'.ownBlock = some g ∧ w.heap.size ≤ g) := by
  obtain ⟨i, hi0, hz, hs, hby⟩ : ∃ i, P.info? e = some i ∧ i.zero = some (.slice none 0 0) ∧ i.size = 1 ∧ i.bytes = bytes := info_parts hi
  have hnews : ∀ (j : Nat) (x : Value), [u][j]? = some x → w.cell? (a.add j) = some x := by
    intro j x hx
    have hj : j = 0 := by
      have := (List.getElem?_eq_some_iff.1 hx).1
      simp at this; exact this
    subst hj
    have e0 : a.add 0 = a := by
      obtain ⟨b, off, sp⟩ := a
      cases sp <;> simp [Addr.add]
    rw [e0, hu]
    simpa using hx
  have h1 : ∀ x ∈ [u], x.oneCell' = true := by
    intro x hx
    rw [List.mem_singleton] at hx
    rw [hx]; exact one_slice hone
  have grown : ∀ (old : Nat), old < vs.length + 1 → ∀ (row : Option Nat),
      NewV B e (w.drew.alloc (.cells (vs.toArray ++ [u].toArray ++ Builtin.zeroCells (Value.cells (.slice none 0 0)) (grownCap w (vs.length + 1) old e - (vs.length + 1))) e))
        (.slice (some ⟨w.heap.size, 0, none⟩) (vs.length + 1) (grownCap w (vs.length + 1) old e)) (vs ++ [u]) ∧
      w.grownBy (w.drew.alloc (.cells (vs.toArray ++ [u].toArray ++ Builtin.zeroCells (Value.cells (.slice none 0 0)) (grownCap w (vs.length + 1) old e - (vs.length + 1))) e)) row := by
    intro old ho row
    have hge := grownCap_ge w (vs.length + 1) old e
    have hcm : grownCap w (vs.length + 1) old e ≤ maxLen := grownCap_le_maxLen w (vs.length + 1) old e (by unfold maxLen; omega)
    unfold maxLen at hcm
    refine ⟨.inr ⟨w.heap.size, grownCap w (vs.length + 1) old e, _, by simp, hB, Go.heap_alloc_new w.drew _, by simp; omega, ?_, by omega, ?_⟩, ⟨rfl, rfl, rfl, by simp, fun j hj _ => Below.heap_alloc w.drew _ j hj⟩⟩
    · simp only [Array.size_append, List.size_toArray, size_zeroCells]
      rw [show (Value.cells (.slice none 0 0)).size = 1 from rfl]
      simp
      omega
    · simp only [Array.toList_append, List.append_assoc, List.length_append]
      rw [← List.append_assoc]
      apply List.take_left'
      simp
  rcases hv with ⟨rfl, rfl⟩ | ⟨g, cap, cs, rfl, hbg, hh, hnc, hcs, hcm, htake⟩
  · have hr := run_append_nil (P := P) w t ty e i (.slice none 0 0) ht hi0 hz a 1 c [u] (by simp [hs]) hnews (by omega) (by simp at hm; omega) (by rw [hby]; simp at hbytes; omega)
    have hgr := grown 0 (by simp) (Value.ownBlock (.slice none 0 0))
    simp only [List.length_nil, Nat.zero_add, Array.empty_append, List.nil_append] at hgr ⊢
    exact ⟨_, _, hr, hgr.1, .nil _ _ _, hgr.2, .inr ⟨_, rfl, Nat.le_refl _⟩⟩
  · by_cases hroom : vs.length + 1 ≤ cap
    · have hr := run_append_room (P := P) w t ty e i ht hi0 g vs.length cap cs hh a 1 c [u] (by simp [hs]) hnews h1 hroom (by simp [hs]; omega)
      refine ⟨_, _, hr, .inr ⟨g, cap, _, by simp, hbg, setRow_heap w g cs _ e _ hh, by simpa using hroom, ?_, hcm, ?_⟩, .inr ⟨g, cap, _, rfl, hbg, setRow_heap w g cs _ e _ hh, hnc, ?_, hcm, ?_⟩, ⟨rfl, rfl, rfl, by simp, fun j _ hk => setRow_other w g j _ (fun ee => hk (by simp [Value.ownBlock, ee]))⟩, .inl rfl⟩
      · simp [hs]; omega
      · simp only [hs, Nat.mul_one, List.length_append]
        rw [htake]
        apply List.take_left'
        simp
      · simp [hs]; omega
      · simp only [hs, Nat.mul_one]
        rw [htake, List.append_assoc]
        apply List.take_left'
        simp
    · have holds : ∀ (j : Nat) (x : Value), vs[j]? = some x → w.cell? ((⟨g, 0, none⟩ : Addr).add j) = some x := by
        intro j x hx
        have hadd : (⟨g, 0, none⟩ : Addr).add j = ⟨g, j, none⟩ := by unfold Addr.add; split <;> simp_all
        rw [hadd, cell_of_row w g j cs e (0, 0) hh]
        rw [← htake, List.getElem?_take] at hx
        split at hx
        · simpa using hx
        · cases hx
      have hr := run_append_grow (P := P) w t ty e i (.slice none 0 0) ht hi0 hz ⟨g, 0, none⟩ vs.length cap vs (by simp [hs]) holds a 1 c [u] (by simp [hs]) hnews (by omega) (by omega) (growslice_fits (by omega) (by rw [hby]; exact hbytes))
      have hgr := grown cap (by omega) (Value.ownBlock (.slice (some ⟨g, 0, none⟩) vs.length cap))
      have hold : NewV B e w (.slice (some ⟨g, 0, none⟩) vs.length cap) vs := .inr ⟨g, cap, cs, rfl, hbg, hh, hnc, hcs, hcm, htake⟩
      have hgn := (grown cap (by omega) none).2
      exact ⟨_, _, hr, hgr.1, hold.kept hgn (.inr (by simp [Value.ownBlock])), hgr.2, .inr ⟨_, rfl, Nat.le_refl _⟩⟩
theorem wpList_append_keepV {P : Program} (w : World) {ops : Array Oper} {rest : List Oper} {o : Oper} {a : Act} {Q : Exit → Act → World → Prop} (hgd : o.guard = none) (s x : Operand) (t : TypeId)
    (ho : o.op = .call { callee := .builtin .append, args := #[s, x], argTypes := #[t, t] }) (B : Nat) (e : TypeId) (bytes : Nat) (ht : P.underlying t = some (.slice e))
    (hi : (P.info? e).map (fun i => (i.zero, i.size, i.bytes)) = some (some (.slice none 0 0), 1, bytes)) (v : Value) (vs : List Value) (hs : a.eval s = v) (hv : NewV B e w v vs)
    (ad : Addr) (c : Nat) (u : Value) (hone : ∃ a n c, u = .slice a n c) (hx : a.eval x = .slice (some ad) 1 c) (hu : w.cell? ad = some u) (hm : vs.length + 1 ≤ 9223372036854775807) (hbytes : (vs.length + 1) * bytes ≤ 140737488355328) (hB : B ≤ w.heap.size)
    (h : ∀ v' w', NewV B e w' v' (vs ++ [u]) → NewV B e w' v vs → w.grownBy w' v.ownBlock → (v'.ownBlock = v.ownBlock ∨ ∃ g, v'.ownBlock = some g ∧ w.heap.size ≤ g) → wpList P ops Q rest (a.put o.dst v') w') : wpList P ops Q (o :: rest) a w := by
  refine wpList_plain hgd fun K hK => ?_
  obtain ⟨v', w', hr, h2, h2', h3, h4⟩ := run_append_keepV (P := P) w B t o.type e bytes ht hi v vs hv ad c u hone hu hm hbytes hB
  unfold Oper.wp execOp
  simp only [ho, resolve, invoke, builtin, Sem.run_bind, Sem.run_pure, Result.andThen_ok, List.map_toArray, List.map_cons, List.map_nil, hs, hx, hr]
  exact hK _ _ (h v' w' h2 h2' h3 h4)
/-- A slice is stored into a place. -/
theorem NewV.put {B : Nat} {E : TypeId} {w : World} {g n c : Nat} {vs : List Value} (h : NewV B E w (.slice (some ⟨g, 0, none⟩) n c) vs) (i : Nat) (u : Value) : w.frozen? ⟨g, i, none⟩ = false ∧ NewV B E (w.setCell ⟨g, i, none⟩ u) (.slice (some ⟨g, 0, none⟩) n c) (vs.set i u) := by
  rcases h with ⟨h, _⟩ | ⟨g', cap, cs, hv, hg, hh, h1, h2, h3, h4⟩
  · simp at h
  · simp only [Value.slice.injEq, Option.some.injEq, Addr.mk.injEq, and_true] at hv
    obtain ⟨rfl, rfl, rfl⟩ := hv
    refine ⟨frozen_of_row w g i cs E hh, .inr ⟨g, c, _, by simp, hg, heap_setCell_same w g i cs E u hh, by simpa using h1, by simpa using h2, h3, ?_⟩⟩
    rw [Array.toList_setIfInBounds, List.length_set, List.take_set, h4]
theorem NewV.one {B : Nat} {E : TypeId} {w : World} (u : Value) (hB : B ≤ w.heap.size) : NewV B E (w.alloc (.cells #[u] E)) (.slice (some ⟨w.heap.size, 0, none⟩) 1 1) [u] :=
  .inr ⟨w.heap.size, 1, _, rfl, hB, Go.heap_alloc_new w _, by simp, by simp, by omega, rfl⟩
/-- Lists as parts. -/
theorem Lists.rows {B n c : Nat} {E T : TypeId} {w : World} {V : Nat → Value} {A : Nat → List Int} {a : Option Addr} (h : Lists B .u8 E T w (.slice a n c) n V A) (hu : ∀ j, j < n → U8 (A j)) : ∃ ps : List Part, ps.length = n ∧ Rows_ w a ps ∧ ps.map (·.xs) = (List.range n).map A := by
  have ex : ∀ j, j < n → ∃ p : Part, p.val = V j ∧ p.xs = A j ∧ Sl .u8 w p.a p.cap p.xs := fun j hj => by
    obtain ⟨x, k, hv, hs, _⟩ := h.fam.own hj
    exact ⟨⟨x, k, A j⟩, hv.symm, rfl, hs⟩
  let f : Nat → Part := fun j => if hj : j < n then Classical.choose (ex j hj) else ⟨none, 0, []⟩
  have hf : ∀ j, j < n → (f j).val = V j ∧ (f j).xs = A j ∧ Sl .u8 w (f j).a (f j).cap (f j).xs := fun j hj => by
    have := Classical.choose_spec (ex j hj)
    simp only [f, dif_pos hj]
    exact this
  refine ⟨(List.range n).map f, by simp, ⟨fun hp => ?_, fun p hp => ?_, fun p hp => ?_⟩, ?_⟩
  · simp only [List.length_map, List.length_range] at hp
    obtain ⟨g, ha, _⟩ := h.row.place hp
    refine ⟨g, 0, ha, fun j hj => ?_⟩
    simp only [List.length_map, List.length_range] at hj
    obtain ⟨g', ha', hc⟩ := h.row.place hj
    rw [ha] at ha'
    cases ha'
    rw [Nat.zero_add, hc]
    simp [(hf j hj).1]
  · obtain ⟨j, hj, rfl⟩ := List.mem_map.1 hp
    exact (hf j (List.mem_range.1 hj)).2.2
  · obtain ⟨j, hj, rfl⟩ := List.mem_map.1 hp
    rw [(hf j (List.mem_range.1 hj)).2.1]
    exact hu j (List.mem_range.1 hj)
  · rw [List.map_map]
    exact List.map_congr_left fun j hj => (hf j (List.mem_range.1 hj)).2.1
theorem range_getD {A : Nat → List Int} {ds : List (List Int)} {n : Nat} (hd : ds.length = n) (h : ∀ j, j < n → A j = ds.getD j []) : (List.range n).map A = ds := by
  apply List.ext_getElem (by simp [hd])
  intro j h1 h2
  simp only [List.length_map, List.length_range] at h1
  simp only [List.getElem_map, List.getElem_range]
  rw [h j h1, List.getD_eq_getElem?_getD, List.getElem?_eq_getElem h2]
  rfl
theorem FamV.join {B n m : Nat} {k : IntKind} {E : TypeId} {w : World} {V U : Nat → Value} {A C : Nat → List Int} (h1 : FamV B k E w n V A) (h2 : FamV B k E w m U C) (h : ∀ i j, i < n → j < m → ∀ g, (V i).ownBlock = some g → (U j).ownBlock ≠ some g) :
    FamV B k E w (n + m) (fun j => if j < n then V j else U (j - n)) (fun j => if j < n then A j else C (j - n)) := by
  refine ⟨fun i hi => ?_, fun i j hi hj hne g hg => ?_⟩
  · by_cases e : i < n
    · simp only [e, if_true]; exact h1.new i e
    · simp only [e, if_false]; exact h2.new _ (by omega)
  · by_cases e1 : i < n <;> by_cases e2 : j < n <;> simp only [e1, e2, if_true, if_false] at hg ⊢
    · exact h1.apart i j e1 e2 hne g hg
    · exact h i (j - n) e1 (by omega) g hg
    · exact fun e => h j (i - n) e2 (by omega) g e hg
    · exact h2.apart (i - n) (j - n) (by omega) (by omega) (by omega) g hg
end Go.Sg
