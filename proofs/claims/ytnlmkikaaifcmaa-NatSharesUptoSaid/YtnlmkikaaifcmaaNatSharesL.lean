/- signetlaw6.NatShares by its contract. (Printed by gen_nsl.py.) -/
import Derived.Test.YtnlmkikaaifcmaaNsB
import Derived.Test.YtnlmkikaaifcmaaNsC
import Derived.Test.YtnlmkikaaifcmaaNsG
import Derived.Test.YtnlmkikaaifcmaaNsI
import Derived.Deep.DeepCutAuto
import Derived.Deep.CutBlock
set_option linter.unusedVariables false
set_option linter.unusedSimpArgs false
namespace Go.Sg
open Go.RowKit
theorem xor0_u32 (x : Int) (h : 0 ≤ x ∧ x ≤ 4294967295) : bits .xor .u32 x 0 = x := by
  obtain ⟨n, rfl⟩ : ∃ n : Nat, x = (n : Int) := ⟨x.toNat, by omega⟩
  show IntKind.u32.wrap ((BitVec.ofInt 32 (n : Int) ^^^ BitVec.ofInt 32 0).toNat : Int) = (n : Int)
  have e : BitVec.ofInt 32 (n : Int) ^^^ BitVec.ofInt 32 0 = BitVec.ofInt 32 (n : Int) := by
    rw [show BitVec.ofInt 32 0 = 0#32 from rfl]; exact BitVec.xor_zero
  rw [e, BitVec.toNat_ofInt, IntKind.wrap_u32']; omega
theorem xor_u32_r (x y : Int) : 0 ≤ bits .xor .u32 x y ∧ bits .xor .u32 x y ≤ 4294967295 := by
  unfold bits
  simp only [IntKind.wrap_u32']
  omega
section
variable {B n : Nat} {k : IntKind} {E T : TypeId} {w w' : World} {l : Value} {V : Nat → Value} {A : Nat → List Int}
theorem Lists.fr {m : Nat} {U : Nat → Value} (h : Lists B k E T w l n V A) (fr : FrV U m w w') (hU : ∀ j, j < m → ∀ g, (U j).ownBlock = some g → g < B) : Lists B k E T w' l n V A :=
  ⟨h.row.by_blocks fun g hg => fr.2 g (h.row.lt g hg).2 fun j hj e => by have := hU j hj g e; have := (h.row.lt g hg).1; omega,
   ⟨fun i hi => (h.fam.new i hi).by_blocks fun g hg => fr.2 g ((h.fam.new i hi).lt g hg).2 fun j hj e => by have := hU j hj g e; have := ((h.fam.new i hi).lt g hg).1; omega, h.fam.apart⟩⟩
theorem Lists.other {g : Nat} (h : Lists B k E T w l n V A) (hg : w.grownBy w' (some g)) (hB : g < B) : Lists B k E T w' l n V A :=
  ⟨h.row.kept hg (by
    cases hv : l.ownBlock with
    | none => exact .inl rfl
    | some q => exact .inr (fun e => by have := (h.row.lt q hv).1; have := Option.some.inj e; omega)),
   ⟨fun i hi => (h.fam.new i hi).kept hg (by
    cases hv : (V i).ownBlock with
    | none => exact .inl rfl
    | some q => exact .inr (fun e => by have := ((h.fam.new i hi).lt q hv).1; have := Option.some.inj e; omega)), h.fam.apart⟩⟩
theorem Lists.mono {B' : Nat} (h : Lists B k E T w l n V A) (hB : B' ≤ B) : Lists B' k E T w l n V A := ⟨h.row.mono hB, h.fam.mono hB⟩
end
/-- A part of a row that is full. -/
theorem blk_mid {w : World} {G M c N cap : Nat} {E : TypeId} {Y : List Int} (h : Blk w G .u32 E Y) (hc : c ≤ N) (hN : N ≤ Y.length) (hm : N ≤ M) (hcap : cap = M - c) (hmx : M ≤ 9223372036854775807) : Sl .u32 w (some ⟨G, c, none⟩) cap ((Y.take N).drop c) := by
  subst hcap
  refine ⟨by rw [List.length_drop, List.length_take]; omega, by omega, fun hp => ⟨G, c, rfl, fun j hj => ?_⟩⟩
  rw [List.length_drop, List.length_take] at hj
  rw [h.cell (c + j) (by omega)]
  congr 2
  have h1 : nth ((Y.take N).drop c) j = nth Y (c + j) := by
    rw [nth_get _ _ (by rw [List.length_drop, List.length_take]; omega), nth_get _ _ (by omega)]
    simp
  exact h1.symm
end Go.Sg
namespace Go.Proofs.Ytnlmkikaaifcmaa
open Go.RowKit Go.Sg
theorem numW {w : World} {G N : Nat} {Y : List Int} (h : Blk w G .u32 25 Y) (u : U32 Y) (hY : Y.length = N + 8) (hN : N ≤ 4096) : Sl .u32 w (some ⟨G, 0, none⟩) (N + 8) (Y.take N) ∧ U32 (Y.take N) ∧ (Y.take N).length = N ∧ Lim 4096 (val (Y.take N)) := by
  have hl : (Y.take N).length = N := by rw [List.length_take]; omega
  have hu := u.take (by omega) N
  exact ⟨h.sl N (N + 8) (by omega) (by omega), hu, hl, Lim.of_list hu (by omega)⟩
theorem numD {w : World} {G N c : Nat} {Y : List Int} (h : Blk w G .u32 25 Y) (u : U32 Y) (hY : Y.length = N + 8) (hN : N ≤ 4096) (hc : c ≤ N) : Sl .u32 w (some ⟨G, c, none⟩) (N + 8 - c) ((Y.take N).drop c) ∧ U32 ((Y.take N).drop c) ∧ ((Y.take N).drop c).length = N - c ∧ Lim 4096 (val ((Y.take N).drop c)) := by
  have hl : ((Y.take N).drop c).length = N - c := by rw [List.length_drop, List.length_take]; omega
  have hu := (u.take (by omega) N).drop (by omega) c
  exact ⟨blk_mid h hc (by omega) (show N ≤ N + 8 by omega) rfl (by omega), hu, hl, Lim.of_list hu (by omega)⟩
theorem num_at {w : World} {a : Option Addr} {c N : Nat} {zs : List Int} (s : Sl .u32 w a c zs) (u : U32 zs) (hl : zs.length = N) (h2 : N ≤ 17592186044415) : NumAt w (.slice a N c) (val zs) := by
  have := NumAt.of s u (by omega)
  rwa [hl] at this
set_option maxHeartbeats 16000000 in
set_option maxRecDepth 20000 in
theorem NatShares_c {ar : Option Addr} {cr : Nat} {xs : List Int} {n1 n2 : Int} {w : World} (sr : Sl .u32 w ar cr xs) (u : U32 xs) (hz : xs.length ≤ 1048576) :
    Calls Try.prog 3 #[.slice ar xs.length cr, .int .i64 n1, .int .i64 n2] w (fun e w' => e = .returned (.bool true) ∧ Below w.heap.size w w') := by
  have AL := fun W => alive_c W
  unfold TruePost at AL
  obtain ⟨N, hn⟩ : ∃ n, n = xs.length := ⟨_, rfl⟩
  have HN := Lib.hid hn
  have hz2 : N ≤ 1048576 := by omega
  rw [← hn]
  clear hn hz
  go_enter Try.func3, Try.ntmps3
  go_wp2_with fail
  refine (AL w).mono ?_; rintro e_ w1 ⟨rfl, hB⟩
  by_cases hN : N ≤ 4096
  · have g1 : decide ((4096 : Int) < (N : Int)) = false := decide_eq_false (by omega)
    have g1i : ¬ (4096 : Int) < (N : Int) := by omega
    have g1n : decide (4096 < N) = false := decide_eq_false (by omega)
    go_upto_region 3 with fail
    go_cut [36] from 29 to 36 (fun c wx => c = Value.bool (decide (n1 < 0 ∨ (N : Int) < n1)) ∧ w1 = wx)
    case first =>
      by_cases h1 : n1 < 0
      · have d1 : decide (n1 < 0) = true := decide_eq_true h1
        have d9 : decide (n1 < 0 ∨ (N : Int) < n1) = true := decide_eq_true (.inl h1)
        go_wp2_with fail
        go_meet
        exact ⟨by rw [d9], rfl⟩
      · have d1 : decide (n1 < 0) = false := decide_eq_false h1
        have d1' : 0 ≤ n1 := by omega
        have d9 : decide (n1 < 0 ∨ (N : Int) < n1) = decide ((N : Int) < n1) := by congr 1; simp [h1]
        go_wp2_with fail
        go_meet
        exact ⟨by rw [d9], rfl⟩
    case rest =>
     obtain ⟨rfl, rfl⟩ := hcut
     go_upto_if 36 with fail
     go_cut [1] (fun p wx => (∃ q : Nat, p = Value.int .i64 (q : Int) ∧ q ≤ N) ∧ w1 = wx)
     case first =>
      by_cases h9 : n1 < 0 ∨ (N : Int) < n1
      · have d9 : decide (n1 < 0 ∨ (N : Int) < n1) = true := decide_eq_true h9
        go_wp2_with fail
        go_meet
        exact ⟨⟨N / 2, by first | rfl | (congr 1; omega) | (go_num), by omega⟩, rfl⟩
      · have d9 : decide (n1 < 0 ∨ (N : Int) < n1) = false := decide_eq_false h9
        obtain ⟨q, rfl⟩ := Int.eq_ofNat_of_zero_le (show 0 ≤ n1 by omega)
        go_wp2_with fail
        go_meet
        exact ⟨⟨q, rfl, by omega⟩, rfl⟩
     case rest =>
      obtain ⟨⟨cut, rfl, hcut2⟩, rfl⟩ := hcut
      go_upto_region 5 with fail
      go_cut [45] from 40 to 45 (fun c wx => c = Value.bool (decide (n2 < 0 ∨ (1024 : Int) < n2)) ∧ w1 = wx)
      case first =>
        by_cases h1 : n2 < 0
        · have d1 : decide (n2 < 0) = true := decide_eq_true h1
          have d9 : decide (n2 < 0 ∨ (1024 : Int) < n2) = true := decide_eq_true (.inl h1)
          go_wp2_with fail
          go_meet
          exact ⟨by rw [d9], rfl⟩
        · have d1 : decide (n2 < 0) = false := decide_eq_false h1
          have d1' : 0 ≤ n2 := by omega
          have d9 : decide (n2 < 0 ∨ (1024 : Int) < n2) = decide ((1024 : Int) < n2) := by congr 1; simp [h1]
          go_wp2_with fail
          go_meet
          exact ⟨by rw [d9], rfl⟩
      case rest =>
       obtain ⟨rfl, rfl⟩ := hcut
       go_upto_if 45 with fail
       go_cut [2] (fun p wx => (∃ q : Nat, p = Value.int .i64 (q : Int) ∧ q ≤ 1024) ∧ w1 = wx)
       case first =>
        by_cases h9 : n2 < 0 ∨ (1024 : Int) < n2
        · have d9 : decide (n2 < 0 ∨ (1024 : Int) < n2) = true := decide_eq_true h9
          go_wp2_with fail
          go_meet
          exact ⟨⟨33, rfl, by omega⟩, rfl⟩
        · have d9 : decide (n2 < 0 ∨ (1024 : Int) < n2) = false := decide_eq_false h9
          obtain ⟨q, rfl⟩ := Int.eq_ofNat_of_zero_le (show 0 ≤ n2 by omega)
          go_wp2_with fail
          go_meet
          exact ⟨⟨q, rfl, by omega⟩, rfl⟩
       case rest =>
        obtain ⟨⟨k, rfl, hk⟩, rfl⟩ := hcut
        clear AL
        go_wp2_with (at_make; refine wpList_make_blk _ rfl _ _ 23 rfl 25 .u32 4 Try.underlying23 info32 (N + 8) _ _ rfl rfl (by omega) (by omega) (by omega) (by omega) ?_)
        intro w2 hk1 hs1 hb1
        obtain ⟨G, hG⟩ : ∃ G, G = w1.heap.size := ⟨_, rfl⟩
        rw [← hG] at hk1 ⊢
        have hge : w.heap.size ≤ G := by rw [hG]; exact hB.size
        have hB2 := hB.trans (hb1.mono hB.size)
        have hY0 : Hid ((List.replicate (N + 8) (0 : Int)).length = N + 8 ∧ U32 (List.replicate (N + 8) 0) ∧ ∀ j, j < 0 → nth (List.replicate (N + 8) (0 : Int)) j = nth xs j) := Lib.hid ⟨List.length_replicate, InR.zeros (by omega) _, fun j hj => by omega⟩
        clear hG hs1 hb1 hB
        go_wp2_with fail
        go_loopw [8] (fun t wr => ∃ (i : Nat) (Y : List Int), i ≤ N ∧ t = .int .i64 (i : Int) ∧ Blk wr G .u32 25 Y ∧ Hid (Y.length = N + 8 ∧ U32 Y ∧ ∀ j, j < i → nth Y j = nth xs j) ∧ Below w.heap.size w wr) (fun t _ => N - (intOf t).toNat)
        case atStart => exact ⟨0, _, by omega, rfl, hk1, hY0, hB2⟩
        case round =>
          clear hk1 hY0 hB2
          obtain ⟨i, Y, hi, rfl, kg, hY, hB⟩ := hrel
          by_cases hlt : i < N
          · have hd : decide ((i : Int) < (N : Int)) = true := decide_eq_true (by omega)
            have hi6 : (i : Int) < (N : Int) := by omega
            have c0 := kg.cell i (by rw [hY.out.1]; omega)
            have f0 := kg.free i
            obtain ⟨br, orr, rfl, hcr⟩ := (sr.below hB).cells (by rw [← HN.out]; omega)
            have cr_ := hcr i (by rw [← HN.out]; exact hlt)
            have rx := u i
            obtain ⟨xi, hxi⟩ : ∃ x, x = nth xs i := ⟨_, rfl⟩
            rw [← hxi] at cr_ rx
            have hin8 : (i : Int) < (N : Int) + 8 := by omega
            have hin9 : i < N + 8 := by omega
            have kg' := kg.set i xi
            have hB' := hB.setCell (p := ⟨G, i, none⟩) hge (.int .u32 xi)
            have hY' : Hid ((Y.set i xi).length = N + 8 ∧ U32 (Y.set i xi) ∧ ∀ j, j < i + 1 → nth (Y.set i xi) j = nth xs j) := Lib.hid ⟨by rw [List.length_set]; exact hY.out.1, hY.out.2.1.set i rx.1 rx.2, fun j hj => by
              by_cases e : j = i
              · subst e
                rw [nth_set_same _ _ _ (by rw [hY.out.1]; omega), hxi]
              · rw [nth_set_other _ _ _ _ (fun h => e h.symm)]
                exact hY.out.2.2 j (by omega)⟩
            clear hcr hxi kg hY hB
            go_wp2_with fail
            go_roundw
            case rel => exact ⟨i + 1, _, by omega, by go_num, kg', hY', hB'⟩
            case measure => simp [intOf]; omega
          · obtain rfl : i = N := by omega
            have hd : decide ((i : Int) < (i : Int)) = false := by simp
            have hYm : Hid (Y.length = i + 8 ∧ U32 Y ∧ (∀ j, j < i → nth Y j = nth xs j) ∧ ∀ j, i ≤ j → j < i → nth Y j = 2779096320 + (j : Int)) := Lib.hid ⟨hY.out.1, hY.out.2.1, hY.out.2.2, fun j h1 h2 => by omega⟩
            go_wp2_with fail
            go_loopw [9] (fun t wr => ∃ (q : Nat) (Y : List Int), i ≤ q ∧ q ≤ i + 8 ∧ t = .int .i64 (q : Int) ∧ Blk wr G .u32 25 Y ∧ Hid (Y.length = i + 8 ∧ U32 Y ∧ (∀ j, j < i → nth Y j = nth xs j) ∧ ∀ j, i ≤ j → j < q → nth Y j = 2779096320 + (j : Int)) ∧ Below w.heap.size w wr) (fun t _ => i + 8 - (intOf t).toNat)
            case atStart => exact ⟨i, Y, by omega, by omega, rfl, kg, hYm, hB⟩
            case round =>
              clear kg hY hYm hB hd
              obtain ⟨q, Y, hq0, hq, rfl, kg, hY, hB⟩ := hrel
              by_cases hlt : q < i + 8
              · have hd : decide ((q : Int) < ((i + 8 : Nat) : Int)) = true := decide_eq_true (by omega)
                have hi6 : (q : Int) < (i : Int) + 8 := by omega
                have hd6 : decide ((q : Int) < (i : Int) + 8) = true := decide_eq_true hi6
                have hd7 : decide (q < i + 8) = true := decide_eq_true hlt
                have hq5 : (q : Int) < 5000 := by omega
                have c0 := kg.cell q (by rw [hY.out.1]; omega)
                have f0 := kg.free q
                have kg' := kg.set q (2779096320 + (q : Int))
                have hB' := hB.setCell (p := ⟨G, q, none⟩) hge (.int .u32 (2779096320 + (q : Int)))
                have hY' : Hid ((Y.set q (2779096320 + (q : Int))).length = i + 8 ∧ U32 (Y.set q (2779096320 + (q : Int))) ∧ (∀ j, j < i → nth (Y.set q (2779096320 + (q : Int))) j = nth xs j) ∧ ∀ j, i ≤ j → j < q + 1 → nth (Y.set q (2779096320 + (q : Int))) j = 2779096320 + (j : Int)) := Lib.hid ⟨by rw [List.length_set]; exact hY.out.1, hY.out.2.1.set q (by omega) (by omega), fun j hj => by
                    rw [nth_set_other _ _ _ _ (by omega)]
                    exact hY.out.2.2.1 j hj, fun j h1 h2 => by
                    by_cases e : j = q
                    · subst e
                      rw [nth_set_same _ _ _ (by rw [hY.out.1]; omega)]
                    · rw [nth_set_other _ _ _ _ (fun h => e h.symm)]
                      exact hY.out.2.2.2 j h1 (by omega)⟩
                clear kg hY hB
                go_wp2_with fail
                go_roundw
                case rel => exact ⟨q + 1, _, by omega, by omega, by go_num, kg', hY', hB'⟩
                case measure => simp [intOf]; omega
              · obtain rfl : q = i + 8 := by omega
                have hd : decide (((i + 8 : Nat) : Int) < ((i + 8 : Nat) : Int)) = false := by simp
                obtain ⟨w3, rfl⟩ : ∃ x, x = wr := ⟨_, rfl⟩
                obtain ⟨N, rfl⟩ : ∃ N, N = i := ⟨_, rfl⟩
                have hL : Hid (Y.length = N + 8) := Lib.hid hY.out.1
                have rto := fun W => run_to (P := Try.prog) W 23 25 Try.underlying23 size32N (some ⟨G, 0, none⟩) (N + 8) (N + 8) N (by omega) (N : Int) rfl
                have rmi := fun W => run_mid (P := Try.prog) W 23 25 Try.underlying23 size32N (some ⟨G, 0, none⟩) (N + 8) (N + 8) cut N hcut2 (by omega) (cut : Int) (N : Int) rfl rfl
                have ead : (if N + 8 - cut = 0 then some (⟨G, 0, none⟩ : Addr) else (some (⟨G, 0, none⟩ : Addr)).map (·.add cut)) = some ⟨G, cut, none⟩ := by
                  rw [if_neg (by omega)]
                  simp [Addr.add]
                  try (intro h; omega)
                rw [ead] at rmi
                have gl := kg.lt
                have zz := hB.size
                obtain ⟨sA, uA, lA, mA⟩ := numW kg hY.out.2.1 hY.out.1 hN
                obtain ⟨sD, uD, lD, mD⟩ := numD kg hY.out.2.1 hY.out.1 hN hcut2
                obtain ⟨X, hX⟩ : ∃ X, X = val (Y.take N) := ⟨_, rfl⟩
                obtain ⟨D, hD⟩ : ∃ X, X = val ((Y.take N).drop cut) := ⟨_, rfl⟩
                have NX : ∀ W, Below w3.heap.size w3 W → NumAt W (.slice (some ⟨G, 0, none⟩) N (N + 8)) X := fun W hb => by rw [hX]; exact num_at (sA.below hb) uA lA (by omega)
                have ND : ∀ W, Below w3.heap.size w3 W → NumAt W (.slice (some ⟨G, cut, none⟩) (N - cut) (N + 8 - cut)) D := fun W hb => by rw [hD]; exact num_at (sD.below hb) uD lD (by omega)
                have mX : Lim 4096 X := by rw [hX]; exact mA
                have mD2 : Lim 4096 D := by rw [hD]; exact mD
                have ASK := fun (W : World) (hb : Below w3.heap.size w3 W) => asked_c (k := k) (sA.below hb) (sD.below hb) uA uD (by omega) (by omega) hk
                rw [lA, lD] at ASK
                clear hX hD mA mD ead sA uA lA sD uD lD hlt hd
                have rf := Below.refl w3.heap.size w3
                have oc := outcomes_c (NX _ rf) (ND _ rf) mX mD2 hk
                unfold OutPost at oc
                go_wp2_with fail
                refine oc.mono ?_; rintro e_ w4 ⟨g1, V1, A1, rfl, hg1, O1, hb⟩
                have hF := hb
                have hB4 := hB.trans (hb.mono hB.size)
                have hV1 : Hid (∀ j, j < 19 → ∀ g, (V1 j).ownBlock = some g → g < w4.heap.size) := Lib.hid fun j hj g hg => ((O1.ls.fam.new j hj).lt g hg).2
                have HO1 := Lib.hid O1
                have SZ34 := Lib.hid hF.size
                have kg4 := kg.kp hb
                clear oc hb O1 hB kg
                -- were
                have rf4 := Below.refl w4.heap.size w4
                go_wp2_with fail
                go_loopw [13, 14] (fun mo t wr => ∃ (i : Nat) (V : Nat → Value) (A : Nat → List Int), i ≤ 19 ∧ t = .int .i64 (i : Int) ∧ Lists w4.heap.size .u32 25 23 wr mo i V A ∧ Hid (∀ j, j < i → A j = A1 j) ∧ Below w4.heap.size w4 wr) (fun _ t _ => 19 - (intOf t).toNat)
                case atStart => exact ⟨0, fun _ => undef, fun _ => [], by omega, rfl, ⟨.nil _ _ _, .zero _ _ _ _ _ _⟩, Lib.hid (fun j h => by omega), rf4⟩
                case round =>
                  clear rf4
                  obtain ⟨i, V, A, hi, rfl, hLs, hA, hb⟩ := hrel
                  obtain ⟨am, cm, rfl⟩ := hLs.sl
                  by_cases hlt : i < 19
                  · have hd : decide ((i : Int) < 19) = true := decide_eq_true (by omega)
                    have hi19 : (i : Int) < 19 := by omega
                    have O1 := HO1.out.keep hb
                    obtain ⟨gq, eq_, cell⟩ := O1.ls.row.place hlt
                    cases eq_
                    obtain ⟨aj, cj, hVj, sj, -⟩ := O1.ls.fam.own hlt
                    rw [hVj] at cell
                    have cp := copied_c aj cj (A1 i) wr sj (by have := O1.len i hlt; omega)
                    unfold RowPost at cp
                    obtain ⟨lz, hlz⟩ : ∃ l, l = (A1 i).length := ⟨_, rfl⟩
                    rw [← hlz] at cp cell
                    have HLZ := Lib.hid hlz
                    clear hlz O1 hVj sj
                    go_wp2_with fail
                    refine cp.mono ?_; rintro e_ w5 ⟨v, rfl, nv, hb5⟩
                    obtain ⟨av, cv, rfl, -⟩ := nv.sl
                    rw [← HLZ.out] at nv ⊢
                    have hbs := hb.size
                    obtain ⟨V', A', f1, r1, a1, e1, -, -⟩ := hLs.fam.push' (nv.mono hbs) hb5 (fun g hg => (nv.lt g hg).1)
                    have row5 := hLs.row.keep hb5
                    have hb5' := hb.trans (hb5.mono hbs)
                    have al := (Below.refl w5.heap.size w5).alloc (Nat.le_refl _) (.cells #[.slice av lz cv] 23)
                    have hs5 := hb5'.size
                    have hA' : Hid (∀ j, j < i + 1 → A' j = A1 j) := Lib.hid fun j hj => by
                      by_cases e : j < i
                      · rw [a1 j e]; exact hA.out j e
                      · obtain rfl : j = i := by omega
                        exact e1
                    obtain ⟨R, hR⟩ : ∃ r, r = (List.range i).map V := ⟨_, rfl⟩
                    have lR : Hid (R.length = i) := Lib.hid (by rw [hR]; simp)
                    rw [← hR] at row5 r1
                    have HR := Lib.hid hR
                    clear hR cp nv hb5 cell hb hLs
                    go_wp2_with (at_builtin; refine wpList_append_newV _ rfl _ _ 26 rfl w4.heap.size 23 24 Try.underlying26 infoN6 _ R rfl (row5.alloc _) _ 1 (.slice av lz cv) ⟨_, _, _, rfl⟩ rfl (cell_new1 _ _ _ _) (by rw [lR.out]; omega) (by rw [lR.out]; omega) (by simp; omega) ?_)
                    intro v7 w7 n7 hg7 _
                    have row6 := row5.alloc (.cells #[Value.slice av lz cv] 23)
                    rw [HR.out] at n7 row6 r1
                    have hL7 := Lists.grow row6 (f1.keep al) (by decide) n7 hg7 r1
                    have hb7 := (hb5'.trans (al.mono hs5)).grown hg7 (by simp; omega) (fun g hg => (row6.lt g hg).1)
                    clear n7 hg7 row5 row6 f1 al hb5' r1 a1 e1
                    go_wp2_with fail
                    go_roundw
                    case rel => exact ⟨i + 1, V', A', by omega, by go_num, hL7, hA', hb7⟩
                    case measure => simp [intOf]; omega
                  · obtain rfl : i = 19 := by omega
                    rw [show ((19 : Nat) : Int) = 19 from rfl]
                    have hd : decide ((19 : Int) < 19) = false := by decide
                    obtain ⟨w5, rfl⟩ : ∃ x, x = wr := ⟨_, rfl⟩
                    obtain ⟨gm, rfl, -⟩ := hLs.row.place (show 0 < 19 by omega)
                    have hF5 := hF.trans (hb.mono hF.size)
                    have O1 := HO1.out.keep hb
                    have st_ := stand_c w3.heap.size 19 _ 19 V1 A1 w5 O1.ls (by omega) (fun j hj => by have := O1.len j hj; omega) hF5.size
                    unfold StandPost at st_
                    have kg5 := kg4.kp (hb.mono (Nat.le_refl _))
                    have hB5 := hB4.trans (hb.mono hB4.size)
                    clear O1 hF kg4 hB4
                    go_wp2_with fail
                    refine st_.mono ?_; rintro e_ w6 ⟨rfl, fr, be⟩
                    have W6 := hLs.fr fr hV1.out
                    have hF6 := hF5.trans be
                    have kg6 : Blk w6 G .u32 25 Y := (be.block G gl).trans kg5
                    have hB6 := hB5.trans (be.mono zz)
                    have s46 : w4.heap.size ≤ w6.heap.size := Nat.le_trans hb.size fr.1
                    clear st_ fr be hLs hb hF5 kg5 hB5
                    -- laid
                    have x0 : Hid (∀ i, i < N → nth Y i = bits .xor .u32 (nth xs i) 0) := Lib.hid fun i hi => by rw [xor0_u32 _ (u i)]; exact hY.out.2.2.1 i hi
                    have lc := laid_c (some ⟨G, 0, none⟩) ar (N + 8) cr N Y xs 0 w6 (by have := kg6.sl (N + 8) (N + 8) (by omega) (by omega); rwa [List.take_of_length_le (by rw [hL.out]; omega)] at this) (sr.below hB6) HN.out hL.out.symm hN x0.out hY.out.2.2.2
                    unfold BoolPost at lc
                    clear x0
                    go_wp2_with fail
                    refine lc.mono ?_; rintro e_ w7 ⟨rfl, hd_⟩
                    have hb := Dr.bl hd_
                    replace W6 := W6.keep hb
                    replace kg6 := kg6.kp hb
                    have hF7 := hF6.trans (hb.mono hF6.size)
                    have hB7 := hB6.trans (hb.mono hB6.size)
                    have s47 : w4.heap.size ≤ w7.heap.size := Nat.le_trans s46 hb.size
                    clear lc hd_ hb hF6 hB6 s46
                    -- again
                    have oc := outcomes_c (NX _ hF7) (ND _ hF7) mX mD2 hk
                    unfold OutPost at oc
                    go_wp2_with fail
                    refine oc.mono ?_; rintro e_ w8 ⟨g2, V2, A2, rfl, hg2, O2, hb⟩
                    have W8 := W6.keep hb
                    have kg8 := kg6.kp hb
                    have hF8 := hF7.trans (hb.mono hF7.size)
                    have hB8 := hB7.trans (hb.mono hB7.size)
                    have s48 : w4.heap.size ≤ w8.heap.size := Nat.le_trans s47 hb.size
                    have EQ : Hid (∀ j, j < 19 → A2 j = A j) := Lib.hid fun j hj => by
                      rw [hA.out j hj]
                      exact (O2.can j hj).1.ext (HO1.out.can j hj).1 (O2.can j hj).2.1 (HO1.out.can j hj).2.1 ((O2.can j hj).2.2.trans (HO1.out.can j hj).2.2.symm)
                    have O2s := O2.ls.mono (show w4.heap.size ≤ w7.heap.size from s47)
                    have C2 : Hid (∀ j, j < 19 → U32 (A2 j) ∧ (A2 j).length ≤ 8200) := Lib.hid fun j hj => ⟨(O2.can j hj).2.1, O2.len j hj⟩
                    clear oc hb hF7 hB7 W6 kg6 O2 s47 hg2
                    go_wp2_with fail
                    go_loopw [16] (fun t wr => ∃ i : Nat, i ≤ 19 ∧ t = .int .i64 (i : Int) ∧ Dr w8 wr) (fun t _ => 19 - (intOf t).toNat)
                    case atStart => exact ⟨0, by omega, rfl, .refl _⟩
                    case round =>
                      obtain ⟨i, hi, rfl, nd⟩ := hrel
                      by_cases hlt : i < 19
                      · have hd : decide ((i : Int) < 19) = true := decide_eq_true (by omega)
                        have hi19 : (i : Int) < 19 := by omega
                        have hdn : decide (i < 19) = true := decide_eq_true hlt
                        have bl0 := Dr.bl nd
                        have R2 := O2s.keep bl0
                        have RW := W8.keep bl0
                        obtain ⟨gq, e, cA⟩ := R2.row.place hlt
                        cases e
                        obtain ⟨gq, e, cB⟩ := RW.row.place hlt
                        cases e
                        obtain ⟨aj, cj, hVj, sj, -⟩ := R2.fam.own hlt
                        obtain ⟨bj, dj, hUj, tj, -⟩ := RW.fam.own hlt
                        rw [hVj] at cA
                        rw [hUj, ← EQ.out i hlt] at cB
                        rw [← EQ.out i hlt] at tj
                        obtain ⟨z, hz_⟩ : ∃ z, z = A2 i := ⟨_, rfl⟩
                        have uz := (C2.out i hlt).1
                        rw [← hz_] at cA cB sj tj uz
                        obtain ⟨lz, hlz⟩ : ∃ l, l = z.length := ⟨_, rfl⟩
                        rw [← hlz] at cA cB
                        have CM := fun (W : World) (hb : Below wr.heap.size wr W) => Cmp_eq aj bj cj dj z z W (sj.below hb) (tj.below hb) uz uz rfl
                        unfold CmpPost at CM
                        rw [← hlz] at CM
                        have nl : ((lz : Int) != (lz : Int)) = false := by simp
                        have la := World.block_lt_of_cell? wr _ cA
                        have lb := World.block_lt_of_cell? wr _ cB
                        clear hVj hUj hz_ hlz R2 RW sj tj hi
                        go_wp2_with fail
                        refine wp_region_held_drew (S := fun W_ => W_.cell? ⟨g2, i, none⟩ = some (.slice aj lz cj) ∧ W_.cell? ⟨gm, i, none⟩ = some (.slice bj lz dj)) (by kernel_rfl) (⟨cA, cB⟩) (fun hS => ?_)
                        have hb := below_drewN (Below.refl wr.heap.size wr) 1
                        obtain ⟨wx, hw_⟩ : ∃ x, x = World.drew wr := ⟨_, rfl⟩
                        have ndx : Dr w8 wx := by rw [hw_]; exact nd.drewN 1
                        rw [show World.drewN wr 1 = wx from hw_.symm] at hb
                        rw [← hw_] at hS ⊢
                        clear hw_
                        have cm := CM wx hb
                        refine wpAnyH_take (i := 0) (v := ?_) rfl (by kernel_rfl) (by kernel_rfl) (by kernel_rfl) (fun _ _ _ h => h) (Or.inl ⟨by rfl, ?_⟩) hS ?_
                        rotate_left
                        · intro w _; go_simp; try with_reducible rfl
                        simp only [List.getElem_toArray, List.getElem_cons_zero, List.getElem_cons_succ, Act.put, List.setIfInBounds_toArray, List.set_cons_zero, List.set_cons_succ]
                        refine wpAnyH_take (i := 1) (v := ?_) rfl (by kernel_rfl) (by kernel_rfl) (by kernel_rfl) (fun _ _ _ h => h) (Or.inl ⟨by rfl, ?_⟩) hS ?_
                        rotate_left
                        · intro w _; go_simp; try with_reducible rfl
                        simp only [List.getElem_toArray, List.getElem_cons_zero, List.getElem_cons_succ, Act.put, List.setIfInBounds_toArray, List.set_cons_zero, List.set_cons_succ]
                        refine wpAnyH_take (i := 2) (v := ?_) rfl (by kernel_rfl) (by kernel_rfl) (by kernel_rfl) (fun _ _ _ h => h) (Or.inl ⟨by rfl, ?_⟩) hS ?_
                        rotate_left
                        · intro w _; go_simp; try with_reducible rfl
                        simp only [List.getElem_toArray, List.getElem_cons_zero, List.getElem_cons_succ, Act.put, List.setIfInBounds_toArray, List.set_cons_zero, List.set_cons_succ]
                        refine wpAnyH_take (i := 3) (v := ?_) rfl (by kernel_rfl) (by kernel_rfl) (by kernel_rfl) (fun _ _ _ h => h) (Or.inl ⟨by rfl, ?_⟩) hS ?_
                        rotate_left
                        · intro W_ hW_; obtain ⟨c1_, c2_⟩ := hW_; go_simp; try with_reducible rfl
                        simp only [List.getElem_toArray, List.getElem_cons_zero, List.getElem_cons_succ, Act.put, List.setIfInBounds_toArray, List.set_cons_zero, List.set_cons_succ]
                        refine wpAnyH_take (i := 4) (v := ?_) rfl (by kernel_rfl) (by kernel_rfl) (by kernel_rfl) (fun _ _ _ h => h) (Or.inl ⟨by rfl, ?_⟩) hS ?_
                        rotate_left
                        · intro w _; go_simp; try with_reducible rfl
                        simp only [List.getElem_toArray, List.getElem_cons_zero, List.getElem_cons_succ, Act.put, List.setIfInBounds_toArray, List.set_cons_zero, List.set_cons_succ]
                        refine wpAnyH_take (i := 5) (v := ?_) rfl (by kernel_rfl) (by kernel_rfl) (by kernel_rfl) (fun _ _ _ h => h) (Or.inl ⟨by rfl, ?_⟩) hS ?_
                        rotate_left
                        · intro w _; go_simp; try with_reducible rfl
                        simp only [List.getElem_toArray, List.getElem_cons_zero, List.getElem_cons_succ, Act.put, List.setIfInBounds_toArray, List.set_cons_zero, List.set_cons_succ]
                        refine wpAnyH_take (i := 6) (v := ?_) rfl (by kernel_rfl) (by kernel_rfl) (by kernel_rfl) (fun _ _ _ h => h) (Or.inl ⟨by rfl, ?_⟩) hS ?_
                        rotate_left
                        · intro w _; go_simp; try with_reducible rfl
                        simp only [List.getElem_toArray, List.getElem_cons_zero, List.getElem_cons_succ, Act.put, List.setIfInBounds_toArray, List.set_cons_zero, List.set_cons_succ]
                        refine wpAnyH_take (i := 7) (v := ?_) rfl (by kernel_rfl) (by kernel_rfl) (by kernel_rfl) (fun _ _ _ h => h) (Or.inl ⟨by rfl, ?_⟩) hS ?_
                        rotate_left
                        · intro W_ hW_; obtain ⟨c1_, c2_⟩ := hW_; go_simp; try with_reducible rfl
                        simp only [List.getElem_toArray, List.getElem_cons_zero, List.getElem_cons_succ, Act.put, List.setIfInBounds_toArray, List.set_cons_zero, List.set_cons_succ]
                        refine wpAnyH_ready (rs := [8]) (by kernel_rfl) (by simp) ?_
                        refine AllReadyH.cons rfl (fun K hK => ?_) AllReadyH.nil
                        rw [if_pos (by rfl)]
                        simp only [List.getElem_toArray, List.getElem_cons_zero, List.getElem_cons_succ]
                        go_simp
                        refine cm.mono ?_; rintro e_ wy ⟨rfl, hd_⟩
                        dsimp only
                        have hby := Dr.bl hd_
                        have ndy : Dr w8 wy := by obtain ⟨a_, rfl⟩ := hd_; exact ndx.drewN a_
                        have hS' : wy.cell? ⟨g2, i, none⟩ = some (.slice aj lz cj) ∧ wy.cell? ⟨gm, i, none⟩ = some (.slice bj lz dj) := ⟨(World.cell?_of_block (a := ⟨g2, i, none⟩) (hby.block g2 (World.block_lt_of_cell? wx _ hS.1))).trans hS.1, (World.cell?_of_block (a := ⟨gm, i, none⟩) (hby.block gm (World.block_lt_of_cell? wx _ hS.2))).trans hS.2⟩
                        clear cm CM hby hd_
                        refine hK.out _ _ hS' (fun hS => ?_)
                        refine wpAnyH_take (i := 9) (v := ?_) rfl (by kernel_rfl) (by kernel_rfl) (by kernel_rfl) (fun _ _ _ h => h) (Or.inl ⟨by rfl, ?_⟩) hS ?_
                        rotate_left
                        · intro w _; go_simp; try with_reducible rfl
                        simp only [List.getElem_toArray, List.getElem_cons_zero, List.getElem_cons_succ, Act.put, List.setIfInBounds_toArray, List.set_cons_zero, List.set_cons_succ]
                        refine wpAnyH_take (i := 10) (v := ?_) rfl (by kernel_rfl) (by kernel_rfl) (by kernel_rfl) (fun _ _ _ h => h) (Or.inl ⟨by rfl, ?_⟩) hS ?_
                        rotate_left
                        · intro w _; go_simp; try with_reducible rfl
                        simp only [List.getElem_toArray, List.getElem_cons_zero, List.getElem_cons_succ, Act.put, List.setIfInBounds_toArray, List.set_cons_zero, List.set_cons_succ]
                        refine wpAnyH_take (i := 11) (v := ?_) rfl (by kernel_rfl) (by kernel_rfl) (by kernel_rfl) (fun _ _ _ h => h) (Or.inl ⟨by rfl, ?_⟩) hS ?_
                        rotate_left
                        · intro w _; go_simp; try with_reducible rfl
                        simp only [List.getElem_toArray, List.getElem_cons_zero, List.getElem_cons_succ, Act.put, List.setIfInBounds_toArray, List.set_cons_zero, List.set_cons_succ]
                        refine wpAnyH_take (i := 12) (v := ?_) rfl (by kernel_rfl) (by kernel_rfl) (by kernel_rfl) (fun _ _ _ h => h) (Or.inl ⟨by rfl, ?_⟩) hS ?_
                        rotate_left
                        · intro w _; go_simp; try with_reducible rfl
                        simp only [List.getElem_toArray, List.getElem_cons_zero, List.getElem_cons_succ, Act.put, List.setIfInBounds_toArray, List.set_cons_zero, List.set_cons_succ]
                        refine wpAnyH_take (i := 13) (v := ?_) rfl (by kernel_rfl) (by kernel_rfl) (by kernel_rfl) (fun _ _ _ h => h) (Or.inl ⟨by rfl, ?_⟩) hS ?_
                        rotate_left
                        · intro w _; go_simp; try with_reducible rfl
                        simp only [List.getElem_toArray, List.getElem_cons_zero, List.getElem_cons_succ, Act.put, List.setIfInBounds_toArray, List.set_cons_zero, List.set_cons_succ]
                        refine wpAnyH_take (i := 14) (v := ?_) rfl (by kernel_rfl) (by kernel_rfl) (by kernel_rfl) (fun _ _ _ h => h) (Or.inl ⟨by rfl, ?_⟩) hS ?_
                        rotate_left
                        · intro W_ hW_; obtain ⟨c1_, c2_⟩ := hW_; go_simp; try with_reducible rfl
                        simp only [List.getElem_toArray, List.getElem_cons_zero, List.getElem_cons_succ, Act.put, List.setIfInBounds_toArray, List.set_cons_zero, List.set_cons_succ]
                        refine wpAnyH_take (i := 15) (v := ?_) rfl (by kernel_rfl) (by kernel_rfl) (by kernel_rfl) (fun _ _ _ h => h) (Or.inl ⟨by rfl, ?_⟩) hS ?_
                        rotate_left
                        · intro w _; go_simp; try with_reducible rfl
                        simp only [List.getElem_toArray, List.getElem_cons_zero, List.getElem_cons_succ, Act.put, List.setIfInBounds_toArray, List.set_cons_zero, List.set_cons_succ]
                        refine wpAnyH_take (i := 16) (v := ?_) rfl (by kernel_rfl) (by kernel_rfl) (by kernel_rfl) (fun _ _ _ h => h) (Or.inl ⟨by rfl, ?_⟩) hS ?_
                        rotate_left
                        · intro w _; go_simp; try with_reducible rfl
                        simp only [List.getElem_toArray, List.getElem_cons_zero, List.getElem_cons_succ, Act.put, List.setIfInBounds_toArray, List.set_cons_zero, List.set_cons_succ]
                        refine wpAnyH_take (i := 17) (v := ?_) rfl (by kernel_rfl) (by kernel_rfl) (by kernel_rfl) (fun _ _ _ h => h) (Or.inl ⟨by rfl, ?_⟩) hS ?_
                        rotate_left
                        · intro w _; go_simp; try with_reducible rfl
                        simp only [List.getElem_toArray, List.getElem_cons_zero, List.getElem_cons_succ, Act.put, List.setIfInBounds_toArray, List.set_cons_zero, List.set_cons_succ]
                        refine wpAnyH_take (i := 18) (v := ?_) rfl (by kernel_rfl) (by kernel_rfl) (by kernel_rfl) (fun _ _ _ h => h) (Or.inl ⟨by rfl, ?_⟩) hS ?_
                        rotate_left
                        · intro w _; go_simp; try with_reducible rfl
                        simp only [List.getElem_toArray, List.getElem_cons_zero, List.getElem_cons_succ, Act.put, List.setIfInBounds_toArray, List.set_cons_zero, List.set_cons_succ]
                        refine wpAnyH_take (i := 19) (v := ?_) rfl (by kernel_rfl) (by kernel_rfl) (by kernel_rfl) (fun _ _ _ h => h) (Or.inl ⟨by rfl, ?_⟩) hS ?_
                        rotate_left
                        · intro W_ hW_; obtain ⟨c1_, c2_⟩ := hW_; go_simp; try with_reducible rfl
                        simp only [List.getElem_toArray, List.getElem_cons_zero, List.getElem_cons_succ, Act.put, List.setIfInBounds_toArray, List.set_cons_zero, List.set_cons_succ]
                        refine wpAnyH_take (i := 20) (v := ?_) rfl (by kernel_rfl) (by kernel_rfl) (by kernel_rfl) (fun _ _ _ h => h) (Or.inl ⟨by rfl, ?_⟩) hS ?_
                        rotate_left
                        · intro w _; go_simp; try with_reducible rfl
                        simp only [List.getElem_toArray, List.getElem_cons_zero, List.getElem_cons_succ, Act.put, List.setIfInBounds_toArray, List.set_cons_zero, List.set_cons_succ]
                        refine wpAnyH_take (i := 21) (v := ?_) rfl (by kernel_rfl) (by kernel_rfl) (by kernel_rfl) (fun _ _ _ h => h) (Or.inl ⟨by rfl, ?_⟩) hS ?_
                        rotate_left
                        · intro w _; go_simp; try with_reducible rfl
                        simp only [List.getElem_toArray, List.getElem_cons_zero, List.getElem_cons_succ, Act.put, List.setIfInBounds_toArray, List.set_cons_zero, List.set_cons_succ]
                        refine wpAnyH_take (i := 22) (v := ?_) rfl (by kernel_rfl) (by kernel_rfl) (by kernel_rfl) (fun _ _ _ h => h) (Or.inl ⟨by rfl, ?_⟩) hS ?_
                        rotate_left
                        · intro w _; go_simp; try with_reducible rfl
                        simp only [List.getElem_toArray, List.getElem_cons_zero, List.getElem_cons_succ, Act.put, List.setIfInBounds_toArray, List.set_cons_zero, List.set_cons_succ]
                        refine wpAnyH_done (by kernel_rfl) ?_ _
                        clear hS hS'
                        go_wp2_with fail
                        go_roundw
                        case rel => exact ⟨i + 1, by omega, by go_num, ndy⟩
                        case measure => simp [intOf]; omega
                      · obtain rfl : i = 19 := by omega
                        rw [show ((19 : Nat) : Int) = 19 from rfl]
                        have hd : decide ((19 : Int) < 19) = false := by decide
                        have hb := Dr.bl nd
                        obtain ⟨w9, rfl⟩ : ∃ x, x = wr := ⟨_, rfl⟩
                        have W9 := W8.keep hb
                        have O9 := O2s.keep hb
                        have kg9 := kg8.kp hb
                        have hF9 := hF8.trans (hb.mono hF8.size)
                        have hB9 := hB8.trans (hb.mono hB8.size)
                        have as_ := ASK w9 hF9
                        clear hb nd W8 O2s kg8 hF8 hB8
                        go_wp2_with fail
                        refine as_.mono ?_; rintro e_ wa ⟨rfl, hb⟩
                        have Wa := W9.keep hb
                        have Oa := O9.keep hb
                        have kga := kg9.kp hb
                        have hBa := hB9.trans (hb.mono hB9.size)
                        have sa_ : w4.heap.size ≤ wa.heap.size := Nat.le_trans (W9.row.lt gm rfl).1 (Nat.le_of_lt (Nat.lt_of_lt_of_le (W9.row.lt gm rfl).2 hb.size))
                        clear as_ hb W9 O9 kg9 hF9 hB9 NX ND ASK
                        have G4 : G < w4.heap.size := Nat.lt_of_lt_of_le gl SZ34.out
                        have YM : Hid (∀ j, N ≤ j → j < N + 8 → nth Y j = 2779096320 + (j : Int)) := Lib.hid hY.out.2.2.2
                        have YX : Hid (∀ j, j < N → nth Y j = nth xs j) := Lib.hid hY.out.2.2.1
                        have hYf : Hid (Y.length = N + 8 ∧ U32 Y ∧ (∀ j, j < 0 → nth Y j = bits .xor .u32 (nth xs j) 16843009) ∧ (∀ j, 0 ≤ j → j < N → nth Y j = nth xs j) ∧ ∀ j, N ≤ j → j < N + 8 → nth Y j = 2779096320 + (j : Int)) := Lib.hid ⟨hY.out.1, hY.out.2.1, fun j h => by omega, fun j _ h => YX.out j h, YM.out⟩
                        go_wp2_with fail
                        go_loopw [17] (fun t wr => ∃ (i : Nat) (Y : List Int), i ≤ N ∧ t = .int .i64 (i : Int) ∧ Blk wr G .u32 25 Y ∧ Hid (Y.length = N + 8 ∧ U32 Y ∧ (∀ j, j < i → nth Y j = bits .xor .u32 (nth xs j) 16843009) ∧ (∀ j, i ≤ j → j < N → nth Y j = nth xs j) ∧ ∀ j, N ≤ j → j < N + 8 → nth Y j = 2779096320 + (j : Int)) ∧ Lists w4.heap.size .u32 25 23 wr (.slice (some ⟨gm, 0, none⟩) 19 cm) 19 V A ∧ Lists w4.heap.size .u32 25 23 wr (.slice (some ⟨g2, 0, none⟩) 19 19) 19 V2 A2 ∧ Below w.heap.size w wr ∧ wa.heap.size ≤ wr.heap.size) (fun t _ => N - (intOf t).toNat)
                        case atStart => exact ⟨0, Y, by omega, rfl, kga, hYf, Wa, Oa, hBa, Nat.le_refl _⟩
                        case round =>
                          clear kga hYf Wa Oa hBa hY hL YM YX
                          obtain ⟨i, Y, hi, rfl, kg, hY, Wr, Or, hB, hsz⟩ := hrel
                          by_cases hlt : i < N
                          · have hd : decide ((i : Int) < (N : Int)) = true := decide_eq_true (by omega)
                            have hi6 : (i : Int) < (N : Int) := by omega
                            have hin8 : (i : Int) < (N : Int) + 8 := by omega
                            have hin9 : i < N + 8 := by omega
                            have c0 := kg.cell i (by rw [hY.out.1]; omega)
                            have f0 := kg.free i
                            have e0 := hY.out.2.2.2.1 i (Nat.le_refl _) hlt
                            obtain ⟨yi, hyi⟩ : ∃ y, y = nth Y i := ⟨_, rfl⟩
                            rw [← hyi] at c0 e0
                            obtain ⟨b, hb_⟩ : ∃ b, b = bits .xor .u32 yi 16843009 := ⟨_, rfl⟩
                            have eb := hb_.symm
                            have rb : 0 ≤ b ∧ b ≤ 4294967295 := by rw [hb_]; exact xor_u32_r _ _
                            have HE0 := Lib.hid e0
                            have HBB := Lib.hid hb_
                            have kg' := kg.set i b
                            have hgs := grownBy_set wr ⟨G, i, none⟩ (.int .u32 b)
                            have Wr' := Wr.other hgs G4
                            have Or' := Or.other hgs G4
                            have hB' := hB.setCell (p := ⟨G, i, none⟩) hge (.int .u32 b)
                            have hsz' : wa.heap.size ≤ (wr.setCell ⟨G, i, none⟩ (.int .u32 b)).heap.size := by rw [World.size_setCell]; exact hsz
                            have hY' : Hid ((Y.set i b).length = N + 8 ∧ U32 (Y.set i b) ∧ (∀ j, j < i + 1 → nth (Y.set i b) j = bits .xor .u32 (nth xs j) 16843009) ∧ (∀ j, i + 1 ≤ j → j < N → nth (Y.set i b) j = nth xs j) ∧ ∀ j, N ≤ j → j < N + 8 → nth (Y.set i b) j = 2779096320 + (j : Int)) := Lib.hid ⟨by rw [List.length_set]; exact hY.out.1, hY.out.2.1.set i rb.1 rb.2, fun j hj => by
                                by_cases e : j = i
                                · subst e
                                  rw [nth_set_same _ _ _ (by rw [hY.out.1]; omega), HBB.out, HE0.out]
                                · rw [nth_set_other _ _ _ _ (fun h => e h.symm)]
                                  exact hY.out.2.2.1 j (by omega), fun j h1 h2 => by
                                rw [nth_set_other _ _ _ _ (by omega)]
                                exact hY.out.2.2.2.1 j (by omega) h2, fun j h1 h2 => by
                                rw [nth_set_other _ _ _ _ (by omega)]
                                exact hY.out.2.2.2.2 j h1 h2⟩
                            clear hyi hb_ e0 kg hY Wr Or hB hgs hsz
                            go_wp2_with fail
                            go_roundw
                            case rel => exact ⟨i + 1, _, by omega, by go_num, kg', hY', Wr', Or', hB', hsz'⟩
                            case measure => simp [intOf]; omega
                          · obtain rfl : i = N := by omega
                            have hd : decide ((i : Int) < (i : Int)) = false := by simp
                            obtain ⟨N, rfl⟩ : ∃ N, N = i := ⟨_, rfl⟩
                            obtain ⟨wb, rfl⟩ : ∃ x, x = wr := ⟨_, rfl⟩
                            have hL : Hid (Y.length = N + 8) := Lib.hid hY.out.1
                            obtain ⟨sA, uA, lA, mA⟩ := numW kg hY.out.2.1 hY.out.1 hN
                            obtain ⟨sD, uD, lD, mD⟩ := numD kg hY.out.2.1 hY.out.1 hN hcut2
                            obtain ⟨zA, hzA⟩ : ∃ z, z = Y.take N := ⟨_, rfl⟩
                            obtain ⟨zD, hzD⟩ : ∃ z, z = (Y.take N).drop cut := ⟨_, rfl⟩
                            rw [← hzD] at sD uD lD mD
                            rw [← hzA] at sA uA lA mA
                            obtain ⟨X, hX⟩ : ∃ X, X = val zA := ⟨_, rfl⟩
                            obtain ⟨D, hD⟩ : ∃ X, X = val zD := ⟨_, rfl⟩
                            have NX : ∀ (W : World) (a : Option Addr) (c : Nat), Sl .u32 W a c zA → NumAt W (.slice a N c) X := fun W a c s => by rw [hX]; exact num_at s uA lA (by omega)
                            have ND : ∀ (W : World) (a : Option Addr) (c : Nat), Sl .u32 W a c zD → NumAt W (.slice a (N - cut) c) D := fun W a c s => by rw [hD]; exact num_at s uD lD (by omega)
                            have mX : Lim 4096 X := by rw [hX]; exact mA
                            have mD2 : Lim 4096 D := by rw [hD]; exact mD
                            have ASK := fun (W : World) (hb : Below wb.heap.size wb W) => asked_c (k := k) (sA.below hb) (sD.below hb) uA uD (by omega) (by omega) hk
                            have CA := fun (W : World) (s : Sl .u32 W (some ⟨G, 0, none⟩) (N + 8) zA) => copied_c _ _ zA W s (by omega)
                            have CD := fun (W : World) (s : Sl .u32 W (some ⟨G, cut, none⟩) (N + 8 - cut) zD) => copied_c _ _ zD W s (by omega)
                            have TX := fun (W : World) (hb : Below wb.heap.size wb W) (hw : Below w.heap.size w W) => texts_c (sA.below hb) uA (sr.below hw) u lA HN.out.symm hN
                            unfold RowPost at CA CD
                            rw [lA, lD] at ASK
                            rw [lA] at CA
                            rw [lD] at CD
                            have LA := Lib.hid lA
                            have LD := Lib.hid lD
                            have HX := Lib.hid hX
                            have HD := Lib.hid hD
                            clear hX hD mA mD hzA hzD uA uD lA lD hlt
                            have rf := Below.refl wb.heap.size wb
                            have oc := outcomes_c (NX _ _ _ sA) (ND _ _ _ sD) mX mD2 hk
                            unfold OutPost at oc
                            go_wp2_with fail
                            refine oc.mono ?_; rintro e_ wc ⟨g3, V3, A3, rfl, hg3, O3, hb⟩
                            have bF := rf.trans hb
                            have Wc := Wr.keep hb
                            have Oc := Or.keep hb
                            have hBc := hB.trans (hb.mono hB.size)
                            clear oc hb Wr Or hB rf
                            go_wp2_with fail
                            refine (CA _ (sA.below bF)).mono ?_; rintro e_ wd ⟨v1, rfl, m1, hb⟩
                            obtain ⟨b1, d1, rfl, t1⟩ := m1.sl
                            rw [LA.out]
                            have bFd := bF.trans (hb.mono bF.size)
                            have Wd := Wc.keep hb
                            have Od := Oc.keep hb
                            have O3d := O3.keep hb
                            have hBd := hBc.trans (hb.mono hBc.size)
                            clear m1 hb bF Wc Oc O3 hBc
                            go_wp2_with fail
                            refine (CD _ (sD.below bFd)).mono ?_; rintro e_ we ⟨v2, rfl, m2, hb⟩
                            obtain ⟨b2, d2, rfl, t2⟩ := m2.sl
                            rw [LD.out]
                            have t1e := t1.below hb
                            have bFe := bFd.trans (hb.mono bFd.size)
                            have We := Wd.keep hb
                            have Oe := Od.keep hb
                            have O3e := O3d.keep hb
                            have hBe := hBd.trans (hb.mono hBd.size)
                            clear m2 hb t1 bFd Wd Od O3d hBd
                            have oc := outcomes_c (NX _ _ _ t1e) (ND _ _ _ t2) mX mD2 hk
                            unfold OutPost at oc
                            go_wp2_with fail
                            refine oc.mono ?_; rintro e_ wf ⟨g4, V4, A4, rfl, hg4, O4, hb⟩
                            have bFf := bFe.trans (hb.mono bFe.size)
                            have Wf := We.keep hb
                            have Of := Oe.keep hb
                            have O3f := O3e.keep hb
                            have hBf := hBe.trans (hb.mono hBe.size)
                            have EQ3 : Hid (∀ j, j < 19 → A4 j = A3 j) := Lib.hid fun j hj => (O4.can j hj).1.ext (O3f.can j hj).1 (O4.can j hj).2.1 (O3f.can j hj).2.1 ((O4.can j hj).2.2.trans (O3f.can j hj).2.2.symm)
                            have C3 : Hid (∀ j, j < 19 → U32 (A3 j)) := Lib.hid fun j hj => (O3f.can j hj).2.1
                            have L3 := Lib.hid O3f.ls
                            have L4 := Lib.hid O4.ls
                            have LW := Lib.hid Wf
                            have LO := Lib.hid Of
                            clear oc hb t1e t2 bFe We Oe O3e hBe O3f O4 Wf Of NX ND CA CD mX mD2 hg3 hg4
                            go_wp2_with fail
                            go_loopw [20] (fun t wr => ∃ i : Nat, i ≤ 19 ∧ t = .int .i64 (i : Int) ∧ Dr wf wr) (fun t _ => 19 - (intOf t).toNat)
                            case atStart => exact ⟨0, by omega, rfl, .refl _⟩
                            case round =>
                              obtain ⟨i, hi, rfl, nd⟩ := hrel
                              by_cases hlt : i < 19
                              · have hd : decide ((i : Int) < 19) = true := decide_eq_true (by omega)
                                have hi19 : (i : Int) < 19 := by omega
                                have hdn : decide (i < 19) = true := decide_eq_true hlt
                                have bl0 := Dr.bl nd
                                have R3 := L3.out.keep bl0
                                have R4 := L4.out.keep bl0
                                have RO := LO.out.keep bl0
                                have RW := LW.out.keep bl0
                                obtain ⟨gq, e, cA⟩ := R3.row.place hlt
                                cases e
                                obtain ⟨gq, e, cB⟩ := R4.row.place hlt
                                cases e
                                obtain ⟨gq, e, cC⟩ := RO.row.place hlt
                                cases e
                                obtain ⟨gq, e, cD⟩ := RW.row.place hlt
                                cases e
                                obtain ⟨aj, cj, h1, s1, -⟩ := R3.fam.own hlt
                                obtain ⟨bj, dj, h2, s2, -⟩ := R4.fam.own hlt
                                obtain ⟨ak, ck, h3, s3, -⟩ := RO.fam.own hlt
                                obtain ⟨bk, dk, h4, s4, -⟩ := RW.fam.own hlt
                                rw [h1] at cA
                                rw [h2, EQ3.out i hlt] at cB
                                rw [EQ3.out i hlt] at s2
                                rw [h3] at cC
                                rw [h4, ← EQ.out i hlt] at cD
                                rw [← EQ.out i hlt] at s4
                                obtain ⟨z, hz_⟩ : ∃ z, z = A3 i := ⟨_, rfl⟩
                                obtain ⟨y, hy_⟩ : ∃ z, z = A2 i := ⟨_, rfl⟩
                                have uz := C3.out i hlt
                                have uy := (C2.out i hlt).1
                                rw [← hz_] at cA cB s1 s2 uz
                                rw [← hy_] at cC cD s3 s4 uy
                                obtain ⟨lz, hlz⟩ : ∃ l, l = z.length := ⟨_, rfl⟩
                                obtain ⟨ly, hly⟩ : ∃ l, l = y.length := ⟨_, rfl⟩
                                rw [← hlz] at cA cB
                                rw [← hly] at cC cD
                                have CM := fun (W : World) (hb : Below wr.heap.size wr W) => Cmp_eq aj bj cj dj z z W (s1.below hb) (s2.below hb) uz uz rfl
                                have CN := fun (W : World) (hb : Below wr.heap.size wr W) => Cmp_eq ak bk ck dk y y W (s3.below hb) (s4.below hb) uy uy rfl
                                unfold CmpPost at CM CN
                                rw [← hlz] at CM
                                rw [← hly] at CN
                                clear h1 h2 h3 h4 hz_ hy_ hlz hly R3 R4 RO RW s1 s2 s3 s4 hi
                                go_wp2_with fail
                                refine wp_region_held_drew (S := fun W_ => W_.cell? ⟨g3, i, none⟩ = some (.slice aj lz cj) ∧ W_.cell? ⟨g4, i, none⟩ = some (.slice bj lz dj) ∧ W_.cell? ⟨g2, i, none⟩ = some (.slice ak ly ck) ∧ W_.cell? ⟨gm, i, none⟩ = some (.slice bk ly dk)) (by kernel_rfl) (⟨cA, cB, cC, cD⟩) (fun hS => ?_)
                                have hb := below_drewN (Below.refl wr.heap.size wr) 1
                                obtain ⟨wx, hw_⟩ : ∃ x, x = World.drew wr := ⟨_, rfl⟩
                                have ndx : Dr wf wx := by rw [hw_]; exact nd.drewN 1
                                rw [show World.drewN wr 1 = wx from hw_.symm] at hb
                                rw [← hw_] at hS ⊢
                                clear hw_
                                have cm := CM wx hb
                                refine wpAnyH_take (i := 0) (v := ?_) rfl (by kernel_rfl) (by kernel_rfl) (by kernel_rfl) (fun _ _ _ h => h) (Or.inl ⟨by rfl, ?_⟩) hS ?_
                                rotate_left
                                · intro w _; go_simp; try with_reducible rfl
                                simp only [List.getElem_toArray, List.getElem_cons_zero, List.getElem_cons_succ, Act.put, List.setIfInBounds_toArray, List.set_cons_zero, List.set_cons_succ]
                                refine wpAnyH_take (i := 1) (v := ?_) rfl (by kernel_rfl) (by kernel_rfl) (by kernel_rfl) (fun _ _ _ h => h) (Or.inl ⟨by rfl, ?_⟩) hS ?_
                                rotate_left
                                · intro w _; go_simp; try with_reducible rfl
                                simp only [List.getElem_toArray, List.getElem_cons_zero, List.getElem_cons_succ, Act.put, List.setIfInBounds_toArray, List.set_cons_zero, List.set_cons_succ]
                                refine wpAnyH_take (i := 2) (v := ?_) rfl (by kernel_rfl) (by kernel_rfl) (by kernel_rfl) (fun _ _ _ h => h) (Or.inl ⟨by rfl, ?_⟩) hS ?_
                                rotate_left
                                · intro w _; go_simp; try with_reducible rfl
                                simp only [List.getElem_toArray, List.getElem_cons_zero, List.getElem_cons_succ, Act.put, List.setIfInBounds_toArray, List.set_cons_zero, List.set_cons_succ]
                                refine wpAnyH_take (i := 3) (v := ?_) rfl (by kernel_rfl) (by kernel_rfl) (by kernel_rfl) (fun _ _ _ h => h) (Or.inl ⟨by rfl, ?_⟩) hS ?_
                                rotate_left
                                · intro W_ hW_; obtain ⟨c1_, c2_, c3_, c4_⟩ := hW_; go_simp; try with_reducible rfl
                                simp only [List.getElem_toArray, List.getElem_cons_zero, List.getElem_cons_succ, Act.put, List.setIfInBounds_toArray, List.set_cons_zero, List.set_cons_succ]
                                refine wpAnyH_take (i := 4) (v := ?_) rfl (by kernel_rfl) (by kernel_rfl) (by kernel_rfl) (fun _ _ _ h => h) (Or.inl ⟨by rfl, ?_⟩) hS ?_
                                rotate_left
                                · intro w _; go_simp; try with_reducible rfl
                                simp only [List.getElem_toArray, List.getElem_cons_zero, List.getElem_cons_succ, Act.put, List.setIfInBounds_toArray, List.set_cons_zero, List.set_cons_succ]
                                refine wpAnyH_take (i := 5) (v := ?_) rfl (by kernel_rfl) (by kernel_rfl) (by kernel_rfl) (fun _ _ _ h => h) (Or.inl ⟨by rfl, ?_⟩) hS ?_
                                rotate_left
                                · intro w _; go_simp; try with_reducible rfl
                                simp only [List.getElem_toArray, List.getElem_cons_zero, List.getElem_cons_succ, Act.put, List.setIfInBounds_toArray, List.set_cons_zero, List.set_cons_succ]
                                refine wpAnyH_take (i := 6) (v := ?_) rfl (by kernel_rfl) (by kernel_rfl) (by kernel_rfl) (fun _ _ _ h => h) (Or.inl ⟨by rfl, ?_⟩) hS ?_
                                rotate_left
                                · intro w _; go_simp; try with_reducible rfl
                                simp only [List.getElem_toArray, List.getElem_cons_zero, List.getElem_cons_succ, Act.put, List.setIfInBounds_toArray, List.set_cons_zero, List.set_cons_succ]
                                refine wpAnyH_take (i := 7) (v := ?_) rfl (by kernel_rfl) (by kernel_rfl) (by kernel_rfl) (fun _ _ _ h => h) (Or.inl ⟨by rfl, ?_⟩) hS ?_
                                rotate_left
                                · intro W_ hW_; obtain ⟨c1_, c2_, c3_, c4_⟩ := hW_; go_simp; try with_reducible rfl
                                simp only [List.getElem_toArray, List.getElem_cons_zero, List.getElem_cons_succ, Act.put, List.setIfInBounds_toArray, List.set_cons_zero, List.set_cons_succ]
                                refine wpAnyH_ready (rs := [8]) (by kernel_rfl) (by simp) ?_
                                refine AllReadyH.cons rfl (fun K hK => ?_) AllReadyH.nil
                                rw [if_pos (by rfl)]
                                simp only [List.getElem_toArray, List.getElem_cons_zero, List.getElem_cons_succ]
                                go_simp
                                refine cm.mono ?_; rintro e_ wy ⟨rfl, hd_⟩
                                dsimp only
                                have hby := Dr.bl hd_
                                have ndy : Dr wf wy := by obtain ⟨a_, rfl⟩ := hd_; exact ndx.drewN a_
                                have kc := fun (g : Nat) (v : Value) (h : wx.cell? ⟨g, i, none⟩ = some v) => (World.cell?_of_block (a := ⟨g, i, none⟩) (hby.block g (World.block_lt_of_cell? wx _ h))).trans h
                                have hS' : wy.cell? ⟨g3, i, none⟩ = some (.slice aj lz cj) ∧ wy.cell? ⟨g4, i, none⟩ = some (.slice bj lz dj) ∧ wy.cell? ⟨g2, i, none⟩ = some (.slice ak ly ck) ∧ wy.cell? ⟨gm, i, none⟩ = some (.slice bk ly dk) := ⟨kc _ _ hS.1, kc _ _ hS.2.1, kc _ _ hS.2.2.1, kc _ _ hS.2.2.2⟩
                                have cn := CN wy (hb.trans (hby.mono hb.size))
                                clear cm CM CN kc hby hd_
                                refine hK.out _ _ hS' (fun hS => ?_)
                                refine wpAnyH_take (i := 9) (v := ?_) rfl (by kernel_rfl) (by kernel_rfl) (by kernel_rfl) (fun _ _ _ h => h) (Or.inl ⟨by rfl, ?_⟩) hS ?_
                                rotate_left
                                · intro w _; go_simp; try with_reducible rfl
                                simp only [List.getElem_toArray, List.getElem_cons_zero, List.getElem_cons_succ, Act.put, List.setIfInBounds_toArray, List.set_cons_zero, List.set_cons_succ]
                                refine wpAnyH_take (i := 10) (v := ?_) rfl (by kernel_rfl) (by kernel_rfl) (by kernel_rfl) (fun _ _ _ h => h) (Or.inl ⟨by rfl, ?_⟩) hS ?_
                                rotate_left
                                · intro w _; go_simp; try with_reducible rfl
                                simp only [List.getElem_toArray, List.getElem_cons_zero, List.getElem_cons_succ, Act.put, List.setIfInBounds_toArray, List.set_cons_zero, List.set_cons_succ]
                                refine wpAnyH_take (i := 11) (v := ?_) rfl (by kernel_rfl) (by kernel_rfl) (by kernel_rfl) (fun _ _ _ h => h) (Or.inl ⟨by rfl, ?_⟩) hS ?_
                                rotate_left
                                · intro w _; go_simp; try with_reducible rfl
                                simp only [List.getElem_toArray, List.getElem_cons_zero, List.getElem_cons_succ, Act.put, List.setIfInBounds_toArray, List.set_cons_zero, List.set_cons_succ]
                                refine wpAnyH_take (i := 12) (v := ?_) rfl (by kernel_rfl) (by kernel_rfl) (by kernel_rfl) (fun _ _ _ h => h) (Or.inl ⟨by rfl, ?_⟩) hS ?_
                                rotate_left
                                · intro w _; go_simp; try with_reducible rfl
                                simp only [List.getElem_toArray, List.getElem_cons_zero, List.getElem_cons_succ, Act.put, List.setIfInBounds_toArray, List.set_cons_zero, List.set_cons_succ]
                                refine wpAnyH_take (i := 13) (v := ?_) rfl (by kernel_rfl) (by kernel_rfl) (by kernel_rfl) (fun _ _ _ h => h) (Or.inl ⟨by rfl, ?_⟩) hS ?_
                                rotate_left
                                · intro w _; go_simp; try with_reducible rfl
                                simp only [List.getElem_toArray, List.getElem_cons_zero, List.getElem_cons_succ, Act.put, List.setIfInBounds_toArray, List.set_cons_zero, List.set_cons_succ]
                                refine wpAnyH_take (i := 14) (v := ?_) rfl (by kernel_rfl) (by kernel_rfl) (by kernel_rfl) (fun _ _ _ h => h) (Or.inl ⟨by rfl, ?_⟩) hS ?_
                                rotate_left
                                · intro W_ hW_; obtain ⟨c1_, c2_, c3_, c4_⟩ := hW_; go_simp; try with_reducible rfl
                                simp only [List.getElem_toArray, List.getElem_cons_zero, List.getElem_cons_succ, Act.put, List.setIfInBounds_toArray, List.set_cons_zero, List.set_cons_succ]
                                refine wpAnyH_take (i := 15) (v := ?_) rfl (by kernel_rfl) (by kernel_rfl) (by kernel_rfl) (fun _ _ _ h => h) (Or.inl ⟨by rfl, ?_⟩) hS ?_
                                rotate_left
                                · intro w _; go_simp; try with_reducible rfl
                                simp only [List.getElem_toArray, List.getElem_cons_zero, List.getElem_cons_succ, Act.put, List.setIfInBounds_toArray, List.set_cons_zero, List.set_cons_succ]
                                refine wpAnyH_take (i := 16) (v := ?_) rfl (by kernel_rfl) (by kernel_rfl) (by kernel_rfl) (fun _ _ _ h => h) (Or.inl ⟨by rfl, ?_⟩) hS ?_
                                rotate_left
                                · intro w _; go_simp; try with_reducible rfl
                                simp only [List.getElem_toArray, List.getElem_cons_zero, List.getElem_cons_succ, Act.put, List.setIfInBounds_toArray, List.set_cons_zero, List.set_cons_succ]
                                refine wpAnyH_take (i := 17) (v := ?_) rfl (by kernel_rfl) (by kernel_rfl) (by kernel_rfl) (fun _ _ _ h => h) (Or.inl ⟨by rfl, ?_⟩) hS ?_
                                rotate_left
                                · intro w _; go_simp; try with_reducible rfl
                                simp only [List.getElem_toArray, List.getElem_cons_zero, List.getElem_cons_succ, Act.put, List.setIfInBounds_toArray, List.set_cons_zero, List.set_cons_succ]
                                refine wpAnyH_take (i := 18) (v := ?_) rfl (by kernel_rfl) (by kernel_rfl) (by kernel_rfl) (fun _ _ _ h => h) (Or.inl ⟨by rfl, ?_⟩) hS ?_
                                rotate_left
                                · intro W_ hW_; obtain ⟨c1_, c2_, c3_, c4_⟩ := hW_; go_simp; try with_reducible rfl
                                simp only [List.getElem_toArray, List.getElem_cons_zero, List.getElem_cons_succ, Act.put, List.setIfInBounds_toArray, List.set_cons_zero, List.set_cons_succ]
                                refine wpAnyH_ready (rs := [19]) (by kernel_rfl) (by simp) ?_
                                refine AllReadyH.cons rfl (fun K hK => ?_) AllReadyH.nil
                                rw [if_pos (by rfl)]
                                simp only [List.getElem_toArray, List.getElem_cons_zero, List.getElem_cons_succ]
                                go_simp
                                refine cn.mono ?_; rintro e_ wz ⟨rfl, hd_⟩
                                dsimp only
                                have hbz := Dr.bl hd_
                                have ndz : Dr wf wz := by obtain ⟨a_, rfl⟩ := hd_; exact ndy.drewN a_
                                have kc := fun (g : Nat) (v : Value) (h : wy.cell? ⟨g, i, none⟩ = some v) => (World.cell?_of_block (a := ⟨g, i, none⟩) (hbz.block g (World.block_lt_of_cell? wy _ h))).trans h
                                have hS2 : wz.cell? ⟨g3, i, none⟩ = some (.slice aj lz cj) ∧ wz.cell? ⟨g4, i, none⟩ = some (.slice bj lz dj) ∧ wz.cell? ⟨g2, i, none⟩ = some (.slice ak ly ck) ∧ wz.cell? ⟨gm, i, none⟩ = some (.slice bk ly dk) := ⟨kc _ _ hS.1, kc _ _ hS.2.1, kc _ _ hS.2.2.1, kc _ _ hS.2.2.2⟩
                                clear cn kc hbz hd_ hS'
                                refine hK.out _ _ hS2 (fun hS => ?_)
                                refine wpAnyH_take (i := 20) (v := ?_) rfl (by kernel_rfl) (by kernel_rfl) (by kernel_rfl) (fun _ _ _ h => h) (Or.inl ⟨by rfl, ?_⟩) hS ?_
                                rotate_left
                                · intro w _; go_simp; try with_reducible rfl
                                simp only [List.getElem_toArray, List.getElem_cons_zero, List.getElem_cons_succ, Act.put, List.setIfInBounds_toArray, List.set_cons_zero, List.set_cons_succ]
                                refine wpAnyH_take (i := 21) (v := ?_) rfl (by kernel_rfl) (by kernel_rfl) (by kernel_rfl) (fun _ _ _ h => h) (Or.inl ⟨by rfl, ?_⟩) hS ?_
                                rotate_left
                                · intro w _; go_simp; try with_reducible rfl
                                simp only [List.getElem_toArray, List.getElem_cons_zero, List.getElem_cons_succ, Act.put, List.setIfInBounds_toArray, List.set_cons_zero, List.set_cons_succ]
                                refine wpAnyH_done (by kernel_rfl) ?_ _
                                clear hS hS2
                                go_wp2_with fail
                                go_roundw
                                case rel => exact ⟨i + 1, by omega, by go_num, ndz⟩
                                case measure => simp [intOf]; omega
                              · obtain rfl : i = 19 := by omega
                                rw [show ((19 : Nat) : Int) = 19 from rfl]
                                have hd : decide ((19 : Int) < 19) = false := by decide
                                have hb := Dr.bl nd
                                obtain ⟨wg, rfl⟩ : ∃ x, x = wr := ⟨_, rfl⟩
                                have bFg := bFf.trans (hb.mono bFf.size)
                                have hBg := hBf.trans (hb.mono hBf.size)
                                clear hb nd bFf hBf L3 L4 LW LO EQ EQ3 C3 C2
                                have h_ := TX wg bFg hBg
                                go_wp2_with fail
                                refine h_.mono ?_; rintro e_ wh ⟨rfl, hb⟩
                                have bFh := bFg.trans (hb.mono bFg.size)
                                have hBh := hBg.trans (hb.mono hBg.size)
                                clear h_ hb bFg hBg TX
                                have h_ := ASK wh bFh
                                go_wp2_with fail
                                refine h_.mono ?_; rintro e_ wi ⟨rfl, hb⟩
                                have bFi := bFh.trans (hb.mono bFh.size)
                                have hBi := hBh.trans (hb.mono hBh.size)
                                clear h_ hb bFh hBh ASK
                                have kgi := kg.below bFi kg.lt
                                have h_ := laid_c (some ⟨G, 0, none⟩) ar (N + 8) cr N Y xs 16843009 wi (by have := kgi.sl (N + 8) (N + 8) (by omega) (by omega); rwa [List.take_of_length_le (by rw [hL.out]; omega)] at this) (sr.below hBi) HN.out hL.out.symm hN hY.out.2.2.1 hY.out.2.2.2.2
                                unfold BoolPost at h_
                                clear kgi
                                go_wp2_with fail
                                refine h_.mono ?_; rintro e_ wj ⟨rfl, hd_⟩
                                have hBj := hBi.trans ((Dr.bl hd_).mono hBi.size)
                                clear h_ hd_ bFi hBi
                                have h_ := anew_c (k := k) (cut := cut) (sr.below hBj) u (by rw [← HN.out]; exact hcut2) (by rw [← HN.out]; omega) hk
                                rw [← HN.out] at h_
                                go_wp2_with fail
                                refine h_.mono ?_; rintro e_ wk ⟨rfl, hb⟩
                                go_wp2_with fail
                                go_ret
                                exact ⟨by first | done | rfl | simp, hBj.trans (hb.mono hBj.size)⟩
  · have g1 : decide ((4096 : Int) < (N : Int)) = true := decide_eq_true (by omega)
    have g1i : (4096 : Int) < (N : Int) := by omega
    have g1n : decide (4096 < N) = true := decide_eq_true (by omega)
    go_wp2_with fail
    refine (AL w1).mono ?_; rintro e_ w2 ⟨rfl, hb⟩
    go_wp2_with fail
    go_ret
    exact ⟨by first | done | rfl | simp, hB.trans (hb.mono hB.size)⟩
end Go.Proofs.Ytnlmkikaaifcmaa
