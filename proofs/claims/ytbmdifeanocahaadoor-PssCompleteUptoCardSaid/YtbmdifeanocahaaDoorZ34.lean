import Derived.Test.YtbmdifeanocahaaDoorZ32
import Derived.Test.YtbmdifeanocahaaDoorZ24
/- signetlaw10: awake, clash, lucky, by their contracts. -/
set_option linter.unusedVariables false
set_option linter.unusedSimpArgs false
namespace Go.Proofs.YtbmdifeanocahaaDoor
open Go.RowKit Go.Sg

theorem Sum3_c (h : Int) (a0 a a' : Option Addr) (c0 cap cap' : Nat) (t d s : List Int) (w : World) (hx0 : Sl .u8 w a0 c0 t) (hx : Sl .u8 w a cap d) (hy : Sl .u8 w a' cap' s) (u0 : U8 t) (ux : U8 d) (uy : U8 s) (hlen : t.length + d.length + s.length < 2305843009213693952) (ht : ShaTabs w) :
    Calls Tryd.prog 14 #[.int .i64 h, .slice (some ⟨w.heap.size, 0, none⟩) 3 3] (w.alloc (.cells #[.slice a0 t.length c0, .slice a d.length cap, .slice a' s.length cap'] 23)) (BytesPost (sha h (t ++ d ++ s)) w) := by
  have hb := (Below.refl w.heap.size w).alloc (Nat.le_refl _) (.cells #[.slice a0 t.length c0, .slice a d.length cap, .slice a' s.length cap'] 23)
  have e : flat [⟨a0, c0, t⟩, ⟨a, cap, d⟩, ⟨a', cap', s⟩] = t ++ d ++ s := by simp [flat]
  have c := ShaSum_c h (some ⟨w.heap.size, 0, none⟩) 3 [⟨a0, c0, t⟩, ⟨a, cap, d⟩, ⟨a', cap', s⟩] _ (rows_new w 23 [⟨a0, c0, t⟩, ⟨a, cap, d⟩, ⟨a', cap', s⟩] _ rfl (by simp; exact ⟨hx0, hx, hy⟩) (by simp; exact ⟨u0, ux, uy⟩)) (by simp) (by rw [e, List.length_append, List.length_append]; exact hlen) (ht.below hb)
  rw [e] at c
  exact c.mono fun e w' p => SumPost.from hb p

set_option maxHeartbeats 8000000 in
set_option maxRecDepth 20000 in
theorem lucky_c (h : Int) (hh : IsHash h) (b : Nat) (nb : b ≤ 65536) (a a' : Option Addr) (cap cap' : Nat) (d em : List Int) (w : World) (hx : Sl .u8 w a cap d) (hy : Sl .u8 w a' cap' em) (ux : U8 d) (uy : U8 em) (hdl : d.length = shaSize h) (hel : em.length = encLen b) (ht : ShaTabs w) :
    Calls Tryd.prog 37 #[.int .i64 h, .slice a d.length cap, .slice a' em.length cap', .int .i64 (b : Int)] w (TellPost (decide (holdsOf h d em (b : Int))) w) := by
  have sz := Size_c h w
  obtain ⟨z, hz⟩ : ∃ z, z = shaSize h := ⟨_, rfl⟩
  have hz0 : 0 < z := by rw [hz]; exact hh.size_le.2.1
  have hz64 : z ≤ 64 := by rw [hz]; exact shaSize_le h
  rw [← hz] at sz hdl
  have HZ := Lib.hid hz
  obtain ⟨E, hE⟩ : ∃ E, E = encLen b := ⟨_, rfl⟩
  have HE := Lib.hid hE
  have eb : E ≤ 8192 := by rw [hE]; unfold encLen; omega
  rw [← hE] at hel
  clear hz hE
  have EL := Lib.hid hel
  have DL := Lib.hid hdl
  rw [hdl, hel]
  by_cases hzE : 2 * z + 2 ≤ E
  · have g3 : decide ((E : Int) < 2 * (z : Int) + 2) = false := decide_eq_false (by omega)
    have g4 : ¬ (E : Int) < 2 * (z : Int) + 2 := by omega
    obtain ⟨n, hnE⟩ : ∃ n, n + z + 1 = E := ⟨E - z - 1, by omega⟩
    obtain ⟨p, hpn⟩ : ∃ p, p + z = n := ⟨n - z, by omega⟩
    obtain ⟨E1, hE1⟩ : ∃ q, q + 1 = E := ⟨E - 1, by omega⟩
    have x1 : (E : Int) - (z : Int) - 1 = (n : Int) := by omega
    have x2 : (n : Int) - (z : Int) = (p : Int) := by omega
    have x4 : (E : Int) - 1 = (E1 : Int) := by omega
    have hcy := hy.le
    rw [EL.out] at hcy
    have hcut1 := fun W => cut_h0 (P := Tryd.prog) W 23 5 Tryd.underlying23 size8 a' E cap' n (by omega)
    have hcut2 := fun W => cut_lh (P := Tryd.prog) W 23 5 Tryd.underlying23 size8 a' E cap' n E1 (by omega) (by omega) (n : Int) (E1 : Int) rfl rfl
    have sS := (hy.cut n (by rw [EL.out]; omega)).take z
    obtain ⟨aS, haS⟩ : ∃ x, x = (if cap' = n then a' else a'.map (·.add n)) := ⟨_, rfl⟩
    obtain ⟨cS, hcS⟩ : ∃ x, x = cap' - n := ⟨_, rfl⟩
    rw [← haS, ← hcS] at sS hcut2
    rw [show E1 - n = z by omega] at hcut2
    obtain ⟨S, hS⟩ : ∃ S, S = (em.drop n).take z := ⟨_, rfl⟩
    rw [← hS] at sS
    have lS : Hid (S.length = z) := Lib.hid (by rw [hS, List.length_take, List.length_drop, EL.out]; omega)
    have uS : U8 S := by rw [hS]; exact (uy.drop (by omega) _).take (by omega) _
    have HS := Lib.hid hS
    have mk := pMask_c h (n : Int) aS cS S w sS uS (by rw [lS.out]; omega) ht
    have mr : mres h S (n : Int) = maskOf h S n := by unfold mres; rw [if_pos ⟨hh, by omega, by omega⟩, Int.toNat_natCast]
    have mc : mcode h (n : Int) = 0 := by unfold mcode; rw [if_pos hh, if_pos ⟨by omega, by omega⟩]
    unfold MaskPost at mk
    rw [lS.out, mr, mc] at mk
    clear haS hcS hS hdl hel mr mc
    go_enter Tryd.func37, Tryd.ntmps37
    go_wp2_with fail
    refine sz.mono ?_; rintro e' w' ⟨rfl, rfl⟩
    clear sz
    go_wp2_with fail
    refine mk.mono ?_; rintro e w1 ⟨v, rfl, nM, hb1⟩
    obtain ⟨aM, cM, rfl, sM⟩ := nM.sl
    obtain ⟨M, hM⟩ : ∃ x, x = maskOf h S n := ⟨_, rfl⟩
    rw [← hM] at sM ⊢
    have lM : Hid (M.length = n) := Lib.hid (by rw [hM, maskOf_len hh])
    have HM := Lib.hid hM
    have hx1 := hx.below hb1
    have hy1 := hy.below hb1
    have ht1 := ht.below hb1
    have b1s := hb1.size
    rw [lM.out]
    clear nM hM mk sS hcut1 hcut2
    obtain ⟨T, hT⟩ : ∃ T, T = (xl (em.take n) M).drop p := ⟨_, rfl⟩
    have lT : Hid (T.length = z) := Lib.hid (by rw [hT, List.length_drop, xl_len, List.length_take, EL.out]; omega)
    have uT : U8 T := by rw [hT]; exact (xl_u8 (uy.take (by omega) _)).drop (by omega) _
    have NT : Hid (∀ i, i < z → nth T i = bx (nth em (p + i)) (nth M (p + i))) := Lib.hid fun i hi => by
      rw [hT, nth_drop, xl_in _ _ _ (by rw [List.length_take, EL.out]; omega) (by rw [lM.out]; omega), nth_take _ _ _ (by omega)]
    have HT : Hid (T = saltOf h em n) := Lib.hid (by
      rw [hT, HM.out, HS.out]
      unfold saltOf undone
      rw [← HZ.out, show n - z = p by omega])
    clear hT
    go_wp2_with fail
    go_loopw [13, 14] (fun v t wr => ∃ i : Nat, i ≤ z ∧ t = .int .i64 ((p + i : Nat) : Int) ∧ New w1.heap.size .u8 5 wr v (T.take i) ∧ Below w1.heap.size w1 wr) (fun _ t _ => n - (intOf t).toNat)
    case atStart => exact ⟨0, by omega, rfl, .nil _ _ _ _, .refl _ _⟩
    case round =>
      obtain ⟨i, hi, rfl, hv, hb⟩ := hrel
      have hbs := hb.size
      obtain ⟨l, hl1⟩ : ∃ l, l = T.take i := ⟨_, rfl⟩
      rw [← hl1] at hv
      have HLL : Hid (l.length = i) := Lib.hid (by rw [hl1, List.length_take, lT.out]; omega)
      have HL1 := Lib.hid hl1
      clear hl1
      obtain ⟨j, hj⟩ : ∃ j, j = p + i := ⟨_, rfl⟩
      have hji : (p : Int) + (i : Int) = (j : Int) := by omega
      have HJ := Lib.hid hj
      by_cases hlt : i < z
      · obtain ⟨b', off, ea, hc⟩ := (hy1.below hb).cells (by rw [EL.out]; omega)
        obtain ⟨b2, off2, ea2, hc2⟩ := (sM.below hb).cells (by rw [lM.out]; omega)
        subst ea ea2
        have c0 := hc j (by rw [EL.out]; omega)
        have c1 := hc2 j (by rw [lM.out]; omega)
        obtain ⟨x, hxe⟩ : ∃ x, x = nth M j := ⟨_, rfl⟩
        obtain ⟨y, hye⟩ : ∃ y, y = nth em j := ⟨_, rfl⟩
        obtain ⟨r, hr⟩ : ∃ r, r = bx y x := ⟨_, rfl⟩
        rw [← hxe] at c1
        rw [← hye] at c0
        have hxo : bits .xor .u8 y x = r := hr.symm
        have fin : Hid (l ++ [r] = T.take (i + 1)) := Lib.hid (by rw [HL1.out, take_succ_nth _ _ (by rw [lT.out]; exact hlt), NT.out i hlt, ← HJ.out, ← hxe, ← hye, ← hr])
        have hin : (j : Int) < (n : Int) := by omega
        have hinE : (j : Int) < (E : Int) := by omega
        have hd1 : decide ((j : Int) < (n : Int)) = true := decide_eq_true hin
        have hlt1 := fun g hg => (hv.lt g hg).1
        clear hc hc2 hxe hye hr hj
        go_wp2_with fail
        go_region_law ((refine step_append_new _ (by rfl) (.tmp 62) (.tmp 72) 23 (by rfl) w1.heap.size 5 .u8 1 Tryd.underlying23 info8s _ _ (by rfl) (hv.alloc _).drew _ _ 1 [r] (by rfl) (by rfl) ((cells_one _ _ _ _ _ rfl).drewN 1) (by rw [HLL.out]; simp; omega) (by rw [HLL.out]; simp; omega) (by simp; omega) ?_; intro v' w' hv' hg'))
        all_goals (
          have hb' : Below w1.heap.size w1 w' := (hb.alloc hbs _).drew.grown hg' (by simp; omega) hlt1
          rw [fin.out] at hv'
          clear hv hg' hb
          go_wp2_with fail
          go_roundw
          case rel => exact ⟨i + 1, by omega, congrArg (Value.int .i64) (by omega), hv', hb'⟩
          case measure => simp [intOf]; omega)
      · obtain rfl : z = i := by omega
        obtain rfl : n = j := by omega
        clear hj
        have hd1 : decide ((n : Int) < (n : Int)) = false := by simp
        have eT : Hid (l = T) := Lib.hid (by rw [HL1.out, List.take_of_length_le (by rw [lT.out]; exact Nat.le_refl _)])
        rw [eT.out] at hv
        obtain ⟨aT, cT, rfl, sT⟩ := hv.sl
        rw [lT.out]
        have rng : Hid (0 ≤ (b : Int) ∧ (b : Int) ≤ 65536) := Lib.hid ⟨by omega, by omega⟩
        have fits : Hid (encFits h d T b) := Lib.hid ⟨by rw [DL.out, HZ.out], by rw [← HZ.out, ← HE.out, lT.out]; omega⟩
        have er : Hid (eres h d T (b : Int) = encOf h d T b) := Lib.hid (by unfold eres; rw [if_pos ⟨hh, rng.out, by rw [Int.toNat_natCast]; exact fits.out⟩, Int.toNat_natCast])
        have ec : Hid (ecode h d T (b : Int) = 0) := Lib.hid (by unfold ecode; rw [if_pos hh, if_pos rng.out, if_pos (by rw [Int.toNat_natCast]; exact fits.out)])
        have en := pEncode_c h (b : Int) a aT cap cT d T wr (hx1.below hb) sT ux uT (by rw [DL.out, lT.out]; omega) (ht1.below hb)
        unfold EncPost at en
        rw [DL.out, lT.out, ec.out, er.out] at en
        clear hv
        go_wp2_with fail
        refine en.mono ?_; rintro e w2 ⟨v, rfl, nW, hb2⟩
        obtain ⟨aW, cW, rfl, sW⟩ := nW.sl
        have lW0 : (encOf h d T b).length = E := by rw [encOf_len fits.out, HE.out]
        have uW0 : U8 (encOf h d T b) := encOf_u8 uT
        obtain ⟨zW, hW⟩ : ∃ x, x = encOf h d T b := ⟨_, rfl⟩
        rw [← hW] at sW lW0 uW0 ⊢
        have lW := Lib.hid lW0
        have HW := Lib.hid hW
        rw [lW.out]
        have hbt := hb1.trans ((hb.trans (hb2.mono hb.size)).mono b1s)
        have hy2 := (hy1.below hb).below hb2
        have ans : Hid (decide (holdsOf h d em (b : Int)) = decide (zW = em)) := Lib.hid (by
          have key : holdsOf h d em (b : Int) ↔ zW = em := by
            unfold holdsOf holdsAt
            rw [Int.toNat_natCast, ← HE.out, ← HZ.out, show E - z - 1 = n by omega, ← HT.out, HW.out]
            unfold encOf
            rw [← HE.out, ← HZ.out, show E - z - 1 = n by omega]
            exact ⟨fun q => q.2.2.2.2.2.symm, fun q => ⟨hh, rng.out, DL.out, EL.out, by omega, q.symm⟩⟩
          exact decide_eq_decide.2 key)
        have cm := same10_c _ _ _ _ _ _ _ sW hy2 uW0 uy
        rw [lW.out, EL.out, ← ans.out] at cm
        clear nW hW hb hb2 en lW0 sT
        go_wp2_with fail
        refine cm.mono ?_; rintro e w3 ⟨rfl, hb3⟩
        go_wp2_with fail
        go_ret
        exact ⟨rfl, hbt.trans (hb3.mono hbt.size)⟩
  · have e : Hid (decide (holdsOf h d em (b : Int)) = false) := Lib.hid (decide_eq_false fun k => hzE (by
      have h2 := k.2.2.2.2.1
      rwa [Int.toNat_natCast, ← HE.out, ← HZ.out] at h2))
    have g3 : decide ((E : Int) < 2 * (z : Int) + 2) = true := decide_eq_true (by omega)
    have g4 : (E : Int) < 2 * (z : Int) + 2 := by omega
    go_enter Tryd.func37, Tryd.ntmps37
    go_wp2_with fail
    refine sz.mono ?_; rintro e' w' ⟨rfl, rfl⟩
    go_wp2_with fail
    go_ret
    exact ⟨by rw [e.out]; first | done | rfl, .refl _ _⟩
end Go.Proofs.YtbmdifeanocahaaDoor
