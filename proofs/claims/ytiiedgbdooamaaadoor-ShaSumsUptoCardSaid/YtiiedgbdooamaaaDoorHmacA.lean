/- package hmac, and signetlaw5's block, fill, xor, same, by their contracts. (Printed by gen_hmac.py.) -/
import Derived.Test.YtiiedgbdooamaaaDoorHmacN
import Derived.Test.YtiiedgbdooamaaaDoorShaJ
set_option linter.unusedVariables false
set_option linter.unusedSimpArgs false
namespace Go.Sg
open Go.RowKit
theorem rows_new (w : World) (E : TypeId) (ps : List Part) (cs : Array Value) (hcs : cs = (ps.map Part.val).toArray) (hs : ∀ p ∈ ps, Sl .u8 w p.a p.cap p.xs) (hu : ∀ p ∈ ps, U8 p.xs) :
    Rows_ (w.alloc (.cells cs E)) (some ⟨w.heap.size, 0, none⟩) ps := by
  subst hcs
  refine ⟨fun _ => ⟨_, 0, rfl, fun j hj => ?_⟩, fun p hp => (hs p hp).below ((Below.refl _ _).alloc (Nat.le_refl _) _), hu⟩
  rw [Nat.zero_add, cell_of_row (w.alloc (.cells (ps.map Part.val).toArray E)) w.heap.size j _ E (0, 0) (Go.heap_alloc_new w _)]
  simp [hj]
/-- The same memory, further on the tape. -/
def Dr (w w' : World) : Prop := ∃ n, w' = w.drewN n
theorem Dr.refl (w : World) : Dr w w := ⟨0, rfl⟩
theorem Dr.drewN {w w' : World} (h : Dr w w') (n : Nat) : Dr w (w'.drewN n) := by obtain ⟨m, rfl⟩ := h; exact ⟨m + n, by simp⟩
theorem ext_take (xs ys : List Int) (hl : xs.length = ys.length) (h : ∀ j, j < xs.length → nth xs j = nth ys j) : xs = ys := ext_nth xs ys hl h
end Go.Sg
namespace Go.Proofs.YtiiedgbdooamaaaDoor
open Go.RowKit Go.Sg

/-- A bool, and nothing that was there has turned. -/
def TellPost (b : Bool) (w : World) (e : Ending) (w' : World) : Prop := e = .returned (.bool b) ∧ Below w.heap.size w w'
theorem SumPost.from {h : Int} {T : List Int} {w w1 : World} (hb : Below w.heap.size w w1) {e : Ending} {w' : World} (p : SumPost h T w1 e w') : BytesPost (sha h T) w e w' := by
  obtain ⟨v, rfl, hv, hb'⟩ := p
  exact ⟨v, rfl, hv.mono hb.size, hb.trans (hb'.mono hb.size)⟩
theorem Sum1_c (h : Int) (a : Option Addr) (cap : Nat) (xs : List Int) (w : World) (hx : Sl .u8 w a cap xs) (ux : U8 xs) (hlen : xs.length < 2305843009213693952) (ht : ShaTabs w) :
    Calls Tryd.prog 32 #[.int .i64 h, .slice (some ⟨w.heap.size, 0, none⟩) 1 1] (w.alloc (.cells #[.slice a xs.length cap] 29)) (BytesPost (sha h xs) w) := by
  have hb := (Below.refl w.heap.size w).alloc (Nat.le_refl _) (.cells #[.slice a xs.length cap] 29)
  have e : flat [⟨a, cap, xs⟩] = xs := by simp [flat]
  have c := ShaSum_c h (some ⟨w.heap.size, 0, none⟩) 1 [⟨a, cap, xs⟩] _ (rows_new w 29 [⟨a, cap, xs⟩] _ rfl (by simpa using hx) (by simpa using ux)) (by simp) (by rw [e]; exact hlen) (ht.below hb)
  rw [e] at c
  exact c.mono fun e w' p => SumPost.from hb p
theorem Sum2_c (h : Int) (a a' : Option Addr) (cap cap' : Nat) (xs ys : List Int) (w : World) (hx : Sl .u8 w a cap xs) (hy : Sl .u8 w a' cap' ys) (ux : U8 xs) (uy : U8 ys) (hlen : xs.length + ys.length < 2305843009213693952) (ht : ShaTabs w) :
    Calls Tryd.prog 32 #[.int .i64 h, .slice (some ⟨w.heap.size, 0, none⟩) 2 2] (w.alloc (.cells #[.slice a xs.length cap, .slice a' ys.length cap'] 29)) (BytesPost (sha h (xs ++ ys)) w) := by
  have hb := (Below.refl w.heap.size w).alloc (Nat.le_refl _) (.cells #[.slice a xs.length cap, .slice a' ys.length cap'] 29)
  have e : flat [⟨a, cap, xs⟩, ⟨a', cap', ys⟩] = xs ++ ys := by simp [flat]
  have c := ShaSum_c h (some ⟨w.heap.size, 0, none⟩) 2 [⟨a, cap, xs⟩, ⟨a', cap', ys⟩] _ (rows_new w 29 [⟨a, cap, xs⟩, ⟨a', cap', ys⟩] _ rfl (by simp; exact ⟨hx, hy⟩) (by simp; exact ⟨ux, uy⟩)) (by simp) (by rw [e, List.length_append]; exact hlen) (ht.below hb)
  rw [e] at c
  exact c.mono fun e w' p => SumPost.from hb p

set_option maxHeartbeats 4000000 in
set_option maxRecDepth 20000 in
theorem hfilled_c (h x : Int) (a : Option Addr) (cap : Nat) (k : List Int) (w : World) (hx : Sl .u8 w a cap k) (ux : U8 k) (hlen : k.length ≤ 140737488355328) (hh : IsHash h) (ht : ShaTabs w) :
    Calls Tryd.prog 86 #[.int .i64 h, .slice a k.length cap, .int .u8 x] w (BytesPost (hfill h k x) w) := by
  obtain ⟨sz, hsz⟩ : ∃ sz, sz = shaBlock h := ⟨_, rfl⟩
  have HSZ := Lib.hid hsz
  have hz1 : sz ≤ 128 := by rw [hsz]; exact shaBlock_le h
  have HKL : Hid ((key0 h k).length = sz) := Lib.hid (by rw [hsz]; exact key0_len k hh)
  have kl : (hkeyOf h k).length ≤ sz := by rw [hsz]; exact hkeyOf_len k hh
  have bl := Block_c h w
  rw [← hsz] at bl
  go_enter Tryd.func86, Tryd.ntmps86
  go_wp2_with fail
  refine bl.mono ?_; rintro e w' ⟨rfl, rfl⟩
  clear bl
  by_cases hlt : sz < k.length
  · have hK : Hid (hkeyOf h k = sha h k) := Lib.hid (if_pos (by rw [← hsz]; exact hlt))
    have hgt : (sz : Int) < (k.length : Int) := by omega
    clear hsz hlt
    go_wp2_with fail
    refine (Sum1_c h a cap k w hx ux (by omega) ht).mono ?_; rintro e wk ⟨v, rfl, hv, HB⟩
    obtain ⟨ak, ck, rfl, sk⟩ := hv.sl
    rw [← hK.out] at sk ⊢
    clear hv hgt
    go_wp2_with fail
    refine (Block_c h _).mono ?_; rintro e w' ⟨rfl, rfl⟩
    rw [← HSZ.out]
    go_wp2_with (at_make; refine wpList_make_blk _ rfl _ _ 29 rfl 5 .u8 1 Tryd.underlying29 info8s sz _ _ rfl rfl rfl rfl (by omega) (by omega) ?_)
    intro w2 hk2 hs2 hb2
    have sk2 := sk.below hb2
    have hB2 := HB.trans (hb2.mono HB.size)
    have hge : w.heap.size ≤ wk.heap.size := HB.size
    clear hb2 sk HB
    go_wp2_with (with_reducible refine wpList_copy_blk rfl _ _ 29 29 rfl 5 Tryd.underlying29 size8 _ wk.heap.size 0 _ _ _ _ _ rfl rfl .u8 _ _ hk2 sk2.cells rfl (fun _ _ => rfl) (by rw [List.length_replicate]; omega) ?_)
    intro w3 hk3 hg3 hs3
    have hB3 : Below w.heap.size w w3 := hB2.grown hg3 hB2.size (by simp; omega)
    have hk4 : Blk w3 wk.heap.size .u8 5 (key0 h k) := by
      have e : (hkeyOf h k).take sz ++ List.replicate (sz - (hkeyOf h k).length) (0 : Int) = key0 h k := by
        rw [List.take_of_length_le kl]
        unfold key0
        rw [← HSZ.out]
      rw [← e]; exact hk3
    clear hk2 hk3 hg3 hB2 sk2 hs2 hs3
    go_wp2_with fail
    refine (Block_c h _).mono ?_; rintro e w' ⟨rfl, rfl⟩
    rw [← HSZ.out]
    go_wp2_with fail
    obtain ⟨G, hG⟩ : ∃ G, G = wk.heap.size := ⟨_, rfl⟩
    rw [← hG] at hk4 hge ⊢
    clear hG
    go_loopw [26] (fun t wr => ∃ i : Nat, i ≤ sz ∧ t = .int .i64 (i : Int) ∧ Blk wr G .u8 5 (((key0 h k).take i).map (fun b => bx b x) ++ (key0 h k).drop i) ∧ Below w.heap.size w wr)
      (fun t _ => sz - (intOf t).toNat)
    case atStart => exact ⟨0, by omega, rfl, hk4, hB3⟩
    case round =>
      clear hk4 hB3
      obtain ⟨i, hi, rfl, hk, hb⟩ := hrel
      by_cases hlt : i < sz
      · have hil : i < (key0 h k).length := by rw [HKL.out]; exact hlt
        obtain ⟨L, hL⟩ : ∃ L, L = ((key0 h k).take i).map (fun b => bx b x) ++ (key0 h k).drop i := ⟨_, rfl⟩
        rw [← hL] at hk
        have HL : Hid (L.length = sz) := Lib.hid (by rw [hL, ← HKL.out]; simp; omega)
        have c0 := hk.cell0 i (by rw [HL.out]; exact hlt)
        have c0' := hk.cell i (by rw [HL.out]; exact hlt)
        have f0 := hk.free i
        have hv : nth L i = nth (key0 h k) i := by
          rw [hL]
          have := nth_append_right (((key0 h k).take i).map (fun b => bx b x)) ((key0 h k).drop i) 0
          rw [List.length_map, List.length_take, Nat.min_eq_left (by omega), Nat.add_zero, nth_drop, Nat.add_zero] at this
          exact this
        have hx : bits .xor .u8 (nth L i) x = bx (nth (key0 h k) i) x := by rw [hv]; rfl
        have hs := hk.set i (bx (nth (key0 h k) i) x)
        have fin : Hid (L.set i (bx (nth (key0 h k) i) x) = ((key0 h k).take (i + 1)).map (fun b => bx b x) ++ (key0 h k).drop (i + 1)) := Lib.hid (by
          rw [hL, List.set_append_right _ _ (by simp; omega), take_succ_nth _ _ hil, drop_nth _ _ hil]
          simp [Nat.min_eq_left (Nat.le_of_lt hil)])
        rw [fin.out] at hs
        have hb' := hb.setCell (p := ⟨G, i, none⟩) (by simp only; omega) (.int .u8 (bx (nth (key0 h k) i) x))
        clear hL hv hk hb
        go_wp2_with fail
        go_roundw
        case rel => exact ⟨i + 1, by omega, by go_num, hs, hb'⟩
        case measure => simp [intOf]; omega
      · obtain rfl : i = sz := by omega
        rw [List.take_of_length_le (by rw [HKL.out]; omega), List.drop_of_length_le (by rw [HKL.out]; omega), List.append_nil] at hk
        have hlen : ((key0 h k).map (fun b => bx b x)).length = i := by rw [List.length_map]; exact HKL.out
        go_wp2_with fail
        go_ret
        refine ⟨_, rfl, ?_, hb⟩
        have := New.of_blk hk hge i i (Nat.le_refl _) (by omega) (by omega)
        rw [List.take_of_length_le (by omega)] at this
        exact this
  · have hK : Hid (hkeyOf h k = k) := Lib.hid (if_neg (by rw [← hsz]; exact hlt))
    have hle : ¬ (sz : Int) < (k.length : Int) := by omega
    obtain ⟨wk, hwk⟩ : ∃ wk : World, wk = w := ⟨_, rfl⟩
    have sk : Sl .u8 wk a cap (hkeyOf h k) := by rw [hK.out, hwk]; exact hx
    have HB : Below w.heap.size w wk := by rw [hwk]; exact .refl _ _
    have hkk : k.length = (hkeyOf h k).length := by rw [hK.out]
    have hle2 : decide ((sz : Int) < (k.length : Int)) = false := decide_eq_false hle
    rw [← hwk]
    clear hsz hlt hwk
    rw [hkk] at hle hle2 ⊢
    clear hkk
    go_wp2_with fail
    refine (Block_c h _).mono ?_; rintro e w' ⟨rfl, rfl⟩
    rw [← HSZ.out]
    go_wp2_with (at_make; refine wpList_make_blk _ rfl _ _ 29 rfl 5 .u8 1 Tryd.underlying29 info8s sz _ _ rfl rfl rfl rfl (by omega) (by omega) ?_)
    intro w2 hk2 hs2 hb2
    have sk2 := sk.below hb2
    have hB2 := HB.trans (hb2.mono HB.size)
    have hge : w.heap.size ≤ wk.heap.size := HB.size
    clear hb2 sk HB
    go_wp2_with (with_reducible refine wpList_copy_blk rfl _ _ 29 29 rfl 5 Tryd.underlying29 size8 _ wk.heap.size 0 _ _ _ _ _ rfl rfl .u8 _ _ hk2 sk2.cells rfl (fun _ _ => rfl) (by rw [List.length_replicate]; omega) ?_)
    intro w3 hk3 hg3 hs3
    have hB3 : Below w.heap.size w w3 := hB2.grown hg3 hB2.size (by simp; omega)
    have hk4 : Blk w3 wk.heap.size .u8 5 (key0 h k) := by
      have e : (hkeyOf h k).take sz ++ List.replicate (sz - (hkeyOf h k).length) (0 : Int) = key0 h k := by
        rw [List.take_of_length_le kl]
        unfold key0
        rw [← HSZ.out]
      rw [← e]; exact hk3
    clear hk2 hk3 hg3 hB2 sk2 hs2 hs3
    go_wp2_with fail
    refine (Block_c h _).mono ?_; rintro e w' ⟨rfl, rfl⟩
    rw [← HSZ.out]
    go_wp2_with fail
    obtain ⟨G, hG⟩ : ∃ G, G = wk.heap.size := ⟨_, rfl⟩
    rw [← hG] at hk4 hge ⊢
    clear hG
    go_loopw [26] (fun t wr => ∃ i : Nat, i ≤ sz ∧ t = .int .i64 (i : Int) ∧ Blk wr G .u8 5 (((key0 h k).take i).map (fun b => bx b x) ++ (key0 h k).drop i) ∧ Below w.heap.size w wr)
      (fun t _ => sz - (intOf t).toNat)
    case atStart => exact ⟨0, by omega, rfl, hk4, hB3⟩
    case round =>
      clear hk4 hB3
      obtain ⟨i, hi, rfl, hk, hb⟩ := hrel
      by_cases hlt : i < sz
      · have hil : i < (key0 h k).length := by rw [HKL.out]; exact hlt
        obtain ⟨L, hL⟩ : ∃ L, L = ((key0 h k).take i).map (fun b => bx b x) ++ (key0 h k).drop i := ⟨_, rfl⟩
        rw [← hL] at hk
        have HL : Hid (L.length = sz) := Lib.hid (by rw [hL, ← HKL.out]; simp; omega)
        have c0 := hk.cell0 i (by rw [HL.out]; exact hlt)
        have c0' := hk.cell i (by rw [HL.out]; exact hlt)
        have f0 := hk.free i
        have hv : nth L i = nth (key0 h k) i := by
          rw [hL]
          have := nth_append_right (((key0 h k).take i).map (fun b => bx b x)) ((key0 h k).drop i) 0
          rw [List.length_map, List.length_take, Nat.min_eq_left (by omega), Nat.add_zero, nth_drop, Nat.add_zero] at this
          exact this
        have hx : bits .xor .u8 (nth L i) x = bx (nth (key0 h k) i) x := by rw [hv]; rfl
        have hs := hk.set i (bx (nth (key0 h k) i) x)
        have fin : Hid (L.set i (bx (nth (key0 h k) i) x) = ((key0 h k).take (i + 1)).map (fun b => bx b x) ++ (key0 h k).drop (i + 1)) := Lib.hid (by
          rw [hL, List.set_append_right _ _ (by simp; omega), take_succ_nth _ _ hil, drop_nth _ _ hil]
          simp [Nat.min_eq_left (Nat.le_of_lt hil)])
        rw [fin.out] at hs
        have hb' := hb.setCell (p := ⟨G, i, none⟩) (by simp only; omega) (.int .u8 (bx (nth (key0 h k) i) x))
        clear hL hv hk hb
        go_wp2_with fail
        go_roundw
        case rel => exact ⟨i + 1, by omega, by go_num, hs, hb'⟩
        case measure => simp [intOf]; omega
      · obtain rfl : i = sz := by omega
        rw [List.take_of_length_le (by rw [HKL.out]; omega), List.drop_of_length_le (by rw [HKL.out]; omega), List.append_nil] at hk
        have hlen : ((key0 h k).map (fun b => bx b x)).length = i := by rw [List.length_map]; exact HKL.out
        go_wp2_with fail
        go_ret
        refine ⟨_, rfl, ?_, hb⟩
        have := New.of_blk hk hge i i (Nat.le_refl _) (by omega) (by omega)
        rw [List.take_of_length_le (by omega)] at this
        exact this

set_option maxHeartbeats 2000000 in
set_option maxRecDepth 20000 in
theorem Hmac_c (h : Int) (a a' : Option Addr) (cap cap' : Nat) (k d : List Int) (w : World) (hx : Sl .u8 w a cap k) (hy : Sl .u8 w a' cap' d) (ux : U8 k) (uy : U8 d) (hl : k.length ≤ 140737488355328) (hl' : d.length ≤ 140737488355328) (ht : ShaTabs w) :
    Calls Tryd.prog 40 #[.int .i64 h, .slice a k.length cap, .slice a' d.length cap'] w (BytesPost (hmac h k d) w) := by
  have sz := Size_c h w
  by_cases hh : IsHash h
  · obtain ⟨z, hz⟩ : ∃ z, z = shaSize h := ⟨_, rfl⟩
    have hz0 : 0 < z := by rw [hz]; exact hh.size_le.2.1
    rw [← hz] at sz
    have e0 : ((z : Int) == 0) = false := beq_false_of_ne (by omega)
    have bl : shaBlock h ≤ 128 := shaBlock_le h
    have zl : shaSize h ≤ 64 := shaSize_le h
    clear hz
    go_enter Tryd.func40, Tryd.ntmps40
    go_wp2_with fail
    refine sz.mono ?_; rintro e w' ⟨rfl, rfl⟩
    clear sz
    go_wp2_with fail
    refine (hfilled_c h 92 a cap k w hx ux hl hh ht).mono ?_; rintro e w1 ⟨v1, rfl, hv1, hb1⟩
    obtain ⟨a1, c1, rfl, s1⟩ := hv1.sl
    have hx1 := hx.below hb1
    have hy1 := hy.below hb1
    have ht1 := ht.below hb1
    clear hv1
    go_wp2_with fail
    refine (hfilled_c h 54 a cap k w1 hx1 ux hl hh ht1).mono ?_; rintro e w2 ⟨v2, rfl, hv2, hb2⟩
    obtain ⟨a2, c2, rfl, s2⟩ := hv2.sl
    have hy2 := hy1.below hb2
    have s12 := s1.below hb2
    have ht2 := ht1.below hb2
    have hB2 := hb1.trans (hb2.mono hb1.size)
    clear hv2 hx1 hy1 s1 ht1 hb1 hb2
    go_wp2_with fail
    refine (Sum2_c h a2 a' c2 cap' _ d w2 s2 hy2 (hfill_u8 _ _ _) uy (by rw [hfill_len _ _ hh]; omega) ht2).mono ?_; rintro e w3 ⟨v3, rfl, hv3, hb3⟩
    obtain ⟨a3, c3, rfl, s3⟩ := hv3.sl
    have s13 := s12.below hb3
    have ht3 := ht2.below hb3
    have hB3 := hB2.trans (hb3.mono hB2.size)
    clear hv3 hy2 s12 ht2 hb3 hB2 s2
    go_wp2_with fail
    refine (Sum2_c h a1 a3 c1 c3 _ _ w3 s13 s3 (hfill_u8 _ _ _) (sha_u8 _ _) (by rw [hfill_len _ _ hh, sha_len]; omega) ht3).mono ?_; rintro e w4 ⟨v4, rfl, hv4, hb4⟩
    have hB4 := hB3.trans (hb4.mono hB3.size)
    have hn := hv4.mono hB3.size
    rw [← hmac_is hh] at hn
    clear hv4 s13 s3 ht3 hb4 hB3
    go_wp2_with fail
    go_ret
    exact ⟨_, rfl, hn, hB4⟩
  · rw [shaSize_no hh] at sz
    go_enter Tryd.func40, Tryd.ntmps40
    go_wp2_with fail
    refine sz.mono ?_; rintro e w' ⟨rfl, rfl⟩
    go_wp2_with fail
    go_ret
    exact ⟨_, rfl, by rw [hmac_no hh]; exact .nil _ _ _ _, .refl _ _⟩


set_option maxHeartbeats 2000000 in
theorem same5_c (a a' : Option Addr) (cap cap' : Nat) (xs ys : List Int) (w : World) (hx : Sl .u8 w a cap xs) (hy : Sl .u8 w a' cap' ys) (ux : U8 xs) (uy : U8 ys) :
    Calls Tryd.prog 42 #[.slice a xs.length cap, .slice a' ys.length cap'] w (TellPost (decide (xs = ys)) w) := by
  have mx := Nat.le_trans hx.le hx.max
  have my := Nat.le_trans hy.le hy.max
  by_cases hl : xs.length = ys.length
  · obtain ⟨n, hn⟩ : ∃ n, n = xs.length := ⟨_, rfl⟩
    have HN := Lib.hid hn
    have HM : Hid (n = ys.length) := Lib.hid (by omega)
    have hne : ((n : Int) != (n : Int)) = false := by simp
    rw [← hl, ← hn]
    rw [← hn] at mx
    clear hn hl my
    go_enter Tryd.func42, Tryd.ntmps42
    go_wp2_with fail
    clear hne
    go_loopw [5] (fun t wr => ∃ i : Nat, i ≤ n ∧ t = .int .i64 (i : Int) ∧ xs.take i = ys.take i ∧ Dr w wr) (fun t _ => n - (intOf t).toNat)
    case atStart => exact ⟨0, by omega, rfl, by simp, .refl _⟩
    case round =>
      obtain ⟨i, hi, rfl, he, nd, rfl⟩ := hrel
      have HE := Lib.hid he
      clear he
      by_cases hlt : i < n
      · obtain ⟨b, off, rfl, hc⟩ := hx.cells (by have := HN.out; omega)
        obtain ⟨b', off', rfl, hc'⟩ := hy.cells (by have := HM.out; omega)
        have c0 := hc i (by have := HN.out; omega)
        have c1 := hc' i (by have := HM.out; omega)
        obtain ⟨p, hp⟩ : ∃ p, p = nth xs i := ⟨_, rfl⟩
        obtain ⟨q, hq⟩ : ∃ q, q = nth ys i := ⟨_, rfl⟩
        rw [← hp] at c0
        rw [← hq] at c1
        have hd : decide ((i : Int) < (n : Int)) = true := decide_eq_true (by omega)
        by_cases hpq : p = q
        · have he : Hid (xs.take (i + 1) = ys.take (i + 1)) := Lib.hid (by
            rw [take_succ_nth _ _ (by have := HN.out; omega), take_succ_nth _ _ (by have := HM.out; omega), HE.out, ← hp, ← hq, hpq])
          have g1 : (p != q) = false := by simp [hpq]
          clear hc hc' hp hq hpq hd
          go_wp2_with fail
          go_quiet (fail)
          go_wp2_with fail
          go_roundw
          case rel => exact ⟨i + 1, by omega, by go_num, he.out, (by repeat (first | exact Dr.refl _ | apply Dr.drewN))⟩
          case measure => simp [intOf]; omega
        · have e : Hid (decide (xs = ys) = false) := Lib.hid (decide_eq_false fun e => hpq (by rw [hp, hq, e]))
          have g1 : (p != q) = true := by simp [hpq]
          clear hc hc' hp hq hpq hd
          go_wp2_with fail
          go_quiet (fail)
          go_wp2_with fail
          go_ret
          exact ⟨by rw [e.out]; first | done | rfl, (by repeat (first | exact Below.refl _ _ | apply below_drewN))⟩
      · obtain rfl : i = n := by omega
        have e : Hid (decide (xs = ys) = true) := Lib.hid (decide_eq_true (by
          have := HE.out
          rwa [List.take_of_length_le (by have := HN.out; omega), List.take_of_length_le (by have := HM.out; omega)] at this))
        go_wp2_with fail
        go_ret
        exact ⟨by rw [e.out]; first | done | rfl, (by repeat (first | exact Below.refl _ _ | apply below_drewN))⟩
  · have hne : ((xs.length : Int) != (ys.length : Int)) = true := by simp; omega
    have e : Hid (decide (xs = ys) = false) := Lib.hid (decide_eq_false fun e => hl (by rw [e]))
    clear hl
    go_enter Tryd.func42, Tryd.ntmps42
    go_wp2_with fail
    go_ret
    exact ⟨by rw [e.out]; first | done | rfl, .refl _ _⟩


set_option maxHeartbeats 2000000 in
theorem same4_c (a a' : Option Addr) (cap cap' : Nat) (xs ys : List Int) (w : World) (hx : Sl .u8 w a cap xs) (hy : Sl .u8 w a' cap' ys) (ux : U8 xs) (uy : U8 ys) :
    Calls Tryd.prog 28 #[.slice a xs.length cap, .slice a' ys.length cap'] w (TellPost (decide (xs = ys)) w) := by
  have mx := Nat.le_trans hx.le hx.max
  have my := Nat.le_trans hy.le hy.max
  by_cases hl : xs.length = ys.length
  · obtain ⟨n, hn⟩ : ∃ n, n = xs.length := ⟨_, rfl⟩
    have HN := Lib.hid hn
    have HM : Hid (n = ys.length) := Lib.hid (by omega)
    have hne : ((n : Int) != (n : Int)) = false := by simp
    rw [← hl, ← hn]
    rw [← hn] at mx
    clear hn hl my
    go_enter Tryd.func28, Tryd.ntmps28
    go_wp2_with fail
    clear hne
    go_loopw [5] (fun t wr => ∃ i : Nat, i ≤ n ∧ t = .int .i64 (i : Int) ∧ xs.take i = ys.take i ∧ Dr w wr) (fun t _ => n - (intOf t).toNat)
    case atStart => exact ⟨0, by omega, rfl, by simp, .refl _⟩
    case round =>
      obtain ⟨i, hi, rfl, he, nd, rfl⟩ := hrel
      have HE := Lib.hid he
      clear he
      by_cases hlt : i < n
      · obtain ⟨b, off, rfl, hc⟩ := hx.cells (by have := HN.out; omega)
        obtain ⟨b', off', rfl, hc'⟩ := hy.cells (by have := HM.out; omega)
        have c0 := hc i (by have := HN.out; omega)
        have c1 := hc' i (by have := HM.out; omega)
        obtain ⟨p, hp⟩ : ∃ p, p = nth xs i := ⟨_, rfl⟩
        obtain ⟨q, hq⟩ : ∃ q, q = nth ys i := ⟨_, rfl⟩
        rw [← hp] at c0
        rw [← hq] at c1
        have hd : decide ((i : Int) < (n : Int)) = true := decide_eq_true (by omega)
        by_cases hpq : p = q
        · have he : Hid (xs.take (i + 1) = ys.take (i + 1)) := Lib.hid (by
            rw [take_succ_nth _ _ (by have := HN.out; omega), take_succ_nth _ _ (by have := HM.out; omega), HE.out, ← hp, ← hq, hpq])
          have g1 : (p != q) = false := by simp [hpq]
          clear hc hc' hp hq hpq hd
          go_wp2_with fail
          go_quiet (fail)
          go_wp2_with fail
          go_roundw
          case rel => exact ⟨i + 1, by omega, by go_num, he.out, (by repeat (first | exact Dr.refl _ | apply Dr.drewN))⟩
          case measure => simp [intOf]; omega
        · have e : Hid (decide (xs = ys) = false) := Lib.hid (decide_eq_false fun e => hpq (by rw [hp, hq, e]))
          have g1 : (p != q) = true := by simp [hpq]
          clear hc hc' hp hq hpq hd
          go_wp2_with fail
          go_quiet (fail)
          go_wp2_with fail
          go_ret
          exact ⟨by rw [e.out]; first | done | rfl, (by repeat (first | exact Below.refl _ _ | apply below_drewN))⟩
      · obtain rfl : i = n := by omega
        have e : Hid (decide (xs = ys) = true) := Lib.hid (decide_eq_true (by
          have := HE.out
          rwa [List.take_of_length_le (by have := HN.out; omega), List.take_of_length_le (by have := HM.out; omega)] at this))
        go_wp2_with fail
        go_ret
        exact ⟨by rw [e.out]; first | done | rfl, (by repeat (first | exact Below.refl _ _ | apply below_drewN))⟩
  · have hne : ((xs.length : Int) != (ys.length : Int)) = true := by simp; omega
    have e : Hid (decide (xs = ys) = false) := Lib.hid (decide_eq_false fun e => hl (by rw [e]))
    clear hl
    go_enter Tryd.func28, Tryd.ntmps28
    go_wp2_with fail
    go_ret
    exact ⟨by rw [e.out]; first | done | rfl, .refl _ _⟩

/-- Bytes put together: 0 just if both are. -/
def bo (x y : Int) : Int := bits .or .u8 x y
theorem bo_eq (x y : Int) : bo x y = ((BitVec.ofInt 8 x ||| BitVec.ofInt 8 y).toNat : Int) := by
  unfold bo bits
  simp only [IntKind.bits]
  exact wrap8_of _
theorem bo_zero {x y : Int} (hx : 0 ≤ x ∧ x ≤ 255) (hy : 0 ≤ y ∧ y ≤ 255) : bo x y = 0 ↔ x = 0 ∧ y = 0 := by
  have ex := ofInt8_toNat hx
  have ey := ofInt8_toNat hy
  rw [bo_eq]
  constructor
  · intro h
    have h2 : BitVec.ofInt 8 x ||| BitVec.ofInt 8 y = 0#8 := by
      apply BitVec.eq_of_toNat_eq
      simp only [BitVec.toNat_ofNat]
      omega
    rw [BitVec.or_eq_zero_iff] at h2
    obtain ⟨h3, h4⟩ := h2
    rw [h3] at ex
    rw [h4] at ey
    simp at ex ey
    omega
  · rintro ⟨rfl, rfl⟩; decide
theorem bo_rng (x y : Int) : 0 ≤ bo x y ∧ bo x y ≤ 255 := by
  have := (BitVec.ofInt 8 x ||| BitVec.ofInt 8 y).isLt
  rw [bo_eq]; omega
theorem bx_zero {x y : Int} (hx : 0 ≤ x ∧ x ≤ 255) (hy : 0 ≤ y ∧ y ≤ 255) : bx x y = 0 ↔ x = y := by
  have ex := ofInt8_toNat hx
  have ey := ofInt8_toNat hy
  rw [bx_eq]
  constructor
  · intro h
    have h2 : BitVec.ofInt 8 x ^^^ BitVec.ofInt 8 y = 0#8 := by
      apply BitVec.eq_of_toNat_eq
      simp only [BitVec.toNat_ofNat]
      omega
    rw [BitVec.xor_eq_zero_iff] at h2
    exact ofInt8_inj hx hy h2
  · rintro rfl; rw [BitVec.xor_self]; rfl


set_option maxHeartbeats 2000000 in
theorem Equal_c (a a' : Option Addr) (cap cap' : Nat) (xs ys : List Int) (w : World) (hx : Sl .u8 w a cap xs) (hy : Sl .u8 w a' cap' ys) (ux : U8 xs) (uy : U8 ys) :
    Calls Tryd.prog 47 #[.slice a xs.length cap, .slice a' ys.length cap'] w (TellPost (decide (xs = ys)) w) := by
  have mx := Nat.le_trans hx.le hx.max
  have my := Nat.le_trans hy.le hy.max
  by_cases hl : xs.length = ys.length
  · obtain ⟨n, hn⟩ : ∃ n, n = xs.length := ⟨_, rfl⟩
    have HN := Lib.hid hn
    have HM : Hid (n = ys.length) := Lib.hid (by omega)
    have hne : ((n : Int) != (n : Int)) = false := by simp
    rw [← hl, ← hn]
    rw [← hn] at mx
    clear hn hl my
    go_enter Tryd.func47, Tryd.ntmps47
    go_wp2_with fail
    clear hne
    go_loopw [5, 14] (fun u t wr => ∃ (i : Nat) (z : Int), i ≤ n ∧ t = .int .i64 (i : Int) ∧ u = .int .u8 z ∧ 0 ≤ z ∧ z ≤ 255 ∧ (z = 0 ↔ xs.take i = ys.take i) ∧ Dr w wr) (fun _ t _ => n - (intOf t).toNat)
    case atStart => exact ⟨0, 0, by omega, rfl, rfl, by omega, by omega, by simp, .refl _⟩
    case round =>
      obtain ⟨i, z, hi, rfl, rfl, z0, z1, he, nd, rfl⟩ := hrel
      have HE := Lib.hid he
      clear he
      by_cases hlt : i < n
      · obtain ⟨b, off, rfl, hc⟩ := hx.cells (by have := HN.out; omega)
        obtain ⟨b', off', rfl, hc'⟩ := hy.cells (by have := HM.out; omega)
        have c0 := hc i (by have := HN.out; omega)
        have c1 := hc' i (by have := HM.out; omega)
        have up := ux i
        have uq := uy i
        obtain ⟨p, hp⟩ : ∃ p, p = nth xs i := ⟨_, rfl⟩
        obtain ⟨q, hq⟩ : ∃ q, q = nth ys i := ⟨_, rfl⟩
        rw [← hp] at c0 up
        rw [← hq] at c1 uq
        have hd : decide ((i : Int) < (n : Int)) = true := decide_eq_true (by omega)
        have hxo : bits .xor .u8 p q = bx p q := rfl
        have hor : bits .or .u8 z (bx p q) = bo z (bx p q) := rfl
        have he : Hid (bo z (bx p q) = 0 ↔ xs.take (i + 1) = ys.take (i + 1)) := Lib.hid (by
          rw [bo_zero ⟨z0, z1⟩ (bx_rng _ _), bx_zero up uq, HE.out, take_succ_nth _ _ (by have := HN.out; omega), take_succ_nth _ _ (by have := HM.out; omega), ← hp, ← hq]
          constructor
          · rintro ⟨e1, e2⟩; rw [e1, e2]
          · intro e
            have := List.append_inj' e rfl
            exact ⟨this.1, by simpa using this.2⟩)
        have br := bo_rng z (bx p q)
        generalize bo z (bx p q) = z2 at *
        clear hc hc' hp hq hd
        go_wp2_with fail
        go_quiet (fail)
        go_wp2_with fail
        go_roundw
        case rel => exact ⟨i + 1, z2, by omega, by go_num, rfl, br.1, br.2, he.out, (by repeat (first | exact Dr.refl _ | apply Dr.drewN))⟩
        case measure => simp [intOf]; omega
      · obtain rfl : i = n := by omega
        have e : Hid (decide (xs = ys) = (z == 0)) := Lib.hid (by
          have := HE.out
          rw [List.take_of_length_le (by have := HN.out; omega), List.take_of_length_le (by have := HM.out; omega)] at this
          by_cases h0 : z = 0
          · rw [decide_eq_true (this.1 h0)]; simp [h0]
          · rw [decide_eq_false fun e => h0 (this.2 e)]; simp [h0])
        have hb0 : Below w.heap.size w (w.drewN nd) := below_drewN (.refl _ _) _
        go_wp2_with fail
        go_ret
        exact ⟨by rw [e.out]; first | done | rfl, hb0⟩
  · have hne : ((xs.length : Int) != (ys.length : Int)) = true := by simp; omega
    have e : Hid (decide (xs = ys) = false) := Lib.hid (decide_eq_false fun e => hl (by rw [e]))
    clear hl
    go_enter Tryd.func47, Tryd.ntmps47
    go_wp2_with fail
    go_ret
    exact ⟨by rw [e.out]; first | done | rfl, .refl _ _⟩


theorem Check_c (h : Int) (a a' a'' : Option Addr) (cap cap' cap'' : Nat) (k d t : List Int) (w : World) (hx : Sl .u8 w a cap k) (hy : Sl .u8 w a' cap' d) (hz : Sl .u8 w a'' cap'' t) (ux : U8 k) (uy : U8 d) (uz : U8 t) (hl : k.length ≤ 140737488355328) (hl' : d.length ≤ 140737488355328) (ht : ShaTabs w) :
    Calls Tryd.prog 46 #[.int .i64 h, .slice a k.length cap, .slice a' d.length cap', .slice a'' t.length cap''] w (TellPost (decide (IsHash h ∧ hmac h k d = t)) w) := by
  have sz := Size_c h w
  by_cases hh : IsHash h
  · obtain ⟨z, hz'⟩ : ∃ z, z = shaSize h := ⟨_, rfl⟩
    have hz0 : 0 < z := by rw [hz']; exact hh.size_le.2.1
    rw [← hz'] at sz
    have e0 : decide ((0 : Int) < (z : Int)) = true := decide_eq_true (by omega)
    have ee : Hid (decide (IsHash h ∧ hmac h k d = t) = decide (hmac h k d = t)) := Lib.hid (by simp [hh])
    clear hz'
    go_enter Tryd.func46, Tryd.ntmps46
    go_wp2_with fail
    refine sz.mono ?_; rintro e w' ⟨rfl, rfl⟩
    clear sz
    go_wp2_with fail
    refine (Hmac_c h a a' cap cap' k d w hx hy ux uy hl hl' ht).mono ?_; rintro e w1 ⟨v1, rfl, hv1, hb1⟩
    obtain ⟨a1, c1, rfl, s1⟩ := hv1.sl
    have hz1 := hz.below hb1
    clear hv1
    go_wp2_with fail
    refine (Equal_c a1 a'' c1 cap'' _ t w1 s1 hz1 (hmac_u8 _ _ _) uz).mono ?_; rintro e w2 ⟨rfl, hb2⟩
    have hB := hb1.trans (hb2.mono hb1.size)
    clear s1 hz1 hb1 hb2
    go_wp2_with fail
    go_ret
    exact ⟨by rw [ee.out]; first | done | rfl, hB⟩
  · rw [shaSize_no hh] at sz
    have ee : Hid (decide (IsHash h ∧ hmac h k d = t) = false) := Lib.hid (decide_eq_false fun e => hh e.1)
    go_enter Tryd.func46, Tryd.ntmps46
    go_wp2_with fail
    refine sz.mono ?_; rintro e w' ⟨rfl, rfl⟩
    go_wp2_with fail
    go_ret
    exact ⟨by rw [ee.out]; first | done | rfl, .refl _ _⟩

/-! ### signetlaw5 -/
theorem block5_c (h : Int) (w : World) : Calls Tryd.prog 52 #[.int .i64 h] w fun e w' => e = .returned (.int .i64 (shaBlock h)) ∧ w = w' := by
  by_cases h1 : h = 1
  · subst h1
    go_enter Tryd.func52, Tryd.ntmps52
    go_wp2
    go_ret
    exact ⟨rfl, rfl⟩
  by_cases h2 : h = 2
  · subst h2
    go_enter Tryd.func52, Tryd.ntmps52
    go_wp2
    go_ret
    exact ⟨rfl, rfl⟩
  by_cases h3 : h = 3
  · subst h3
    go_enter Tryd.func52, Tryd.ntmps52
    go_wp2
    go_ret
    exact ⟨rfl, rfl⟩
  have e : Hid (shaBlock h = 0) := Lib.hid (by unfold shaBlock; rw [if_neg h1, if_neg h2, if_neg h3])
  have g1 : (h == 1) = false := by simpa using h1
  have g2 : (h == 2) = false := by simpa using h2
  have g3 : (h == 3) = false := by simpa using h3
  clear h1 h2 h3
  go_enter Tryd.func52, Tryd.ntmps52
  go_wp2
  go_ret
  exact ⟨by rw [e.out]; first | done | rfl, rfl⟩

set_option maxHeartbeats 4000000 in
set_option maxRecDepth 20000 in
/-- signetlaw5.fill, of a hash. -/
theorem fill5_c (h : Int) (a : Option Addr) (cap : Nat) (k : List Int) (w : World) (hx : Sl .u8 w a cap k) (ux : U8 k) (hlen : k.length ≤ 140737488355328) (ht : ShaTabs w) :
    Calls Tryd.prog 53 #[.int .i64 h, .slice a k.length cap] w (BytesPost (key0 h k) w) := by
  obtain ⟨sz, hsz⟩ : ∃ sz, sz = shaBlock h := ⟨_, rfl⟩
  have HSZ := Lib.hid hsz
  have hz1 : sz ≤ 128 := by rw [hsz]; exact shaBlock_le h
  have HKL : Hid ((key0 h k).length = sz) := Lib.hid (by rw [hsz]; exact key0_len' k)
  have kl : (hkeyOf h k).length ≤ sz := by rw [hsz]; exact hkeyOf_len' k
  have bl := block5_c h w
  rw [← hsz] at bl
  go_enter Tryd.func53, Tryd.ntmps53
  go_wp2_with fail
  refine bl.mono ?_; rintro e w' ⟨rfl, rfl⟩
  clear bl
  by_cases hlt : sz < k.length
  · have hK : Hid (hkeyOf h k = sha h k) := Lib.hid (if_pos (by rw [← hsz]; exact hlt))
    have hgt : (sz : Int) < (k.length : Int) := by omega
    clear hsz hlt
    go_wp2_with fail
    refine (Sum1_c h a cap k w hx ux (by omega) ht).mono ?_; rintro e wk ⟨v, rfl, hv, HB⟩
    obtain ⟨ak, ck, rfl, sk⟩ := hv.sl
    rw [← hK.out] at sk ⊢
    clear hv hgt
    go_wp2_with fail
    refine (block5_c h _).mono ?_; rintro e w' ⟨rfl, rfl⟩
    rw [← HSZ.out]
    go_wp2_with (at_make; refine wpList_make_blk _ rfl _ _ 29 rfl 5 .u8 1 Tryd.underlying29 info8s sz _ _ rfl rfl rfl rfl (by omega) (by omega) ?_)
    intro w2 hk2 hs2 hb2
    have hge : w.heap.size ≤ wk.heap.size := HB.size
    have hB2 := HB.trans (hb2.mono HB.size)
    have hap : ∀ b off, ak = some ⟨b, off, none⟩ → 0 < (hkeyOf h k).length → b ≠ wk.heap.size := sk.apart (Nat.le_refl _)
    have sk2 := sk.below hb2
    obtain ⟨G, hG⟩ : ∃ G, G = wk.heap.size := ⟨_, rfl⟩
    rw [← hG] at hk2 hge hap ⊢
    obtain ⟨K, hK2⟩ : ∃ K, K = hkeyOf h k := ⟨_, rfl⟩
    rw [← hK2] at sk2 kl hap ⊢
    have HK2 := Lib.hid hK2
    have hk0 : Blk w2 G .u8 5 (K.take 0 ++ List.replicate (sz - 0) 0) := hk2
    clear hb2 sk HB hG hK2 hk2 hs2
    go_wp2_with fail
    go_loopw [7] (fun t wr => ∃ i : Nat, i ≤ K.length ∧ t = .int .i64 (i : Int) ∧ Blk wr G .u8 5 (K.take i ++ List.replicate (sz - i) 0) ∧ Sl .u8 wr ak ck K ∧ Below w.heap.size w wr)
      (fun t _ => K.length - (intOf t).toNat)
    case atStart => exact ⟨0, by omega, rfl, hk0, sk2, hB2⟩
    case round =>
      clear hk0 hB2 sk2
      obtain ⟨i, hi, rfl, hk, hs, hb⟩ := hrel
      by_cases hlt : i < K.length
      · obtain ⟨L, hL⟩ : ∃ L, L = K.take i ++ List.replicate (sz - i) (0 : Int) := ⟨_, rfl⟩
        rw [← hL] at hk
        obtain ⟨b, off, eak, hc⟩ := hs.cells (by omega)
        have hap2 := hap b off eak (by omega)
        subst eak
        have c0 := hc i hlt
        have f0 := hk.free i
        have HL : Hid (L.length = sz) := Lib.hid (by rw [hL]; simp; omega)
        have c1 := hk.cell i (by rw [HL.out]; omega)
        have hsb : Blk (wr.setCell ⟨G, i, none⟩ (.int .u8 (nth K i))) G .u8 5 (K.take (i + 1) ++ List.replicate (sz - (i + 1)) 0) := by
          have := hk.set i (nth K i)
          rw [hL, List.set_append_right _ _ (by simp; omega)] at this
          simp only [List.length_take, Nat.min_eq_left hi, Nat.sub_self] at this
          rw [show sz - i = (sz - (i + 1)) + 1 by omega, List.replicate_succ, List.set_cons_zero] at this
          rw [take_succ_nth _ _ hlt]
          simpa using this
        have hs' := hs.grown' (grownBy_set wr ⟨G, i, none⟩ (.int .u8 (nth K i))) (fun b off ha hp e => hap b off ha hp (Option.some.inj e))
        have hb' := hb.setCell (p := ⟨G, i, none⟩) (by simp only; omega) (.int .u8 (nth K i))
        have hd1 : decide ((i : Int) < (K.length : Int)) = true := decide_eq_true (by omega)
        have hd2 : decide ((i : Int) < (sz : Int)) = true := decide_eq_true (by omega)
        have hisz : i < sz := by omega
        clear hL hk hb hc hs
        go_wp2_with fail
        go_roundw
        case rel => exact ⟨i + 1, by omega, by go_num, hsb, hs', hb'⟩
        case measure => simp [intOf]; omega
      · obtain rfl : i = K.length := by omega
        have hd1 : decide ((K.length : Int) < (K.length : Int)) = false := by simp
        have hkf : Blk wr G .u8 5 (key0 h k) := by
          unfold key0
          rw [← HK2.out, ← HSZ.out]
          rw [List.take_length] at hk; exact hk
        clear hk
        go_wp2_with fail
        go_ret
        refine ⟨_, rfl, ?_, hb⟩
        have := New.of_blk hkf hge sz sz (Nat.le_refl _) (by rw [HKL.out]; omega) (by omega)
        rw [List.take_of_length_le (by rw [HKL.out]; omega)] at this
        exact this
  · have hK : Hid (hkeyOf h k = k) := Lib.hid (if_neg (by rw [← hsz]; exact hlt))
    have hle : ¬ (sz : Int) < (k.length : Int) := by omega
    obtain ⟨wk, hwk⟩ : ∃ wk : World, wk = w := ⟨_, rfl⟩
    have sk : Sl .u8 wk a cap (hkeyOf h k) := by rw [hK.out, hwk]; exact hx
    have HB : Below w.heap.size w wk := by rw [hwk]; exact .refl _ _
    have hkk : k.length = (hkeyOf h k).length := by rw [hK.out]
    have hle2 : decide ((sz : Int) < (k.length : Int)) = false := decide_eq_false hle
    rw [← hwk]
    clear hsz hlt hx hwk
    rw [hkk] at hle hle2 ⊢
    clear hkk
    go_wp2_with fail
    refine (block5_c h _).mono ?_; rintro e w' ⟨rfl, rfl⟩
    rw [← HSZ.out]
    go_wp2_with (at_make; refine wpList_make_blk _ rfl _ _ 29 rfl 5 .u8 1 Tryd.underlying29 info8s sz _ _ rfl rfl rfl rfl (by omega) (by omega) ?_)
    intro w2 hk2 hs2 hb2
    have hge : w.heap.size ≤ wk.heap.size := HB.size
    have hB2 := HB.trans (hb2.mono HB.size)
    have hap : ∀ b off, a = some ⟨b, off, none⟩ → 0 < (hkeyOf h k).length → b ≠ wk.heap.size := sk.apart (Nat.le_refl _)
    have sk2 := sk.below hb2
    obtain ⟨G, hG⟩ : ∃ G, G = wk.heap.size := ⟨_, rfl⟩
    rw [← hG] at hk2 hge hap ⊢
    obtain ⟨K, hK2⟩ : ∃ K, K = hkeyOf h k := ⟨_, rfl⟩
    rw [← hK2] at sk2 kl hap ⊢
    have HK2 := Lib.hid hK2
    have hk0 : Blk w2 G .u8 5 (K.take 0 ++ List.replicate (sz - 0) 0) := hk2
    clear hb2 sk HB hG hK2 hk2 hs2
    go_wp2_with fail
    go_loopw [7] (fun t wr => ∃ i : Nat, i ≤ K.length ∧ t = .int .i64 (i : Int) ∧ Blk wr G .u8 5 (K.take i ++ List.replicate (sz - i) 0) ∧ Sl .u8 wr a cap K ∧ Below w.heap.size w wr)
      (fun t _ => K.length - (intOf t).toNat)
    case atStart => exact ⟨0, by omega, rfl, hk0, sk2, hB2⟩
    case round =>
      clear hk0 hB2 sk2
      obtain ⟨i, hi, rfl, hk, hs, hb⟩ := hrel
      by_cases hlt : i < K.length
      · obtain ⟨L, hL⟩ : ∃ L, L = K.take i ++ List.replicate (sz - i) (0 : Int) := ⟨_, rfl⟩
        rw [← hL] at hk
        obtain ⟨b, off, eak, hc⟩ := hs.cells (by omega)
        have hap2 := hap b off eak (by omega)
        subst eak
        have c0 := hc i hlt
        have f0 := hk.free i
        have HL : Hid (L.length = sz) := Lib.hid (by rw [hL]; simp; omega)
        have c1 := hk.cell i (by rw [HL.out]; omega)
        have hsb : Blk (wr.setCell ⟨G, i, none⟩ (.int .u8 (nth K i))) G .u8 5 (K.take (i + 1) ++ List.replicate (sz - (i + 1)) 0) := by
          have := hk.set i (nth K i)
          rw [hL, List.set_append_right _ _ (by simp; omega)] at this
          simp only [List.length_take, Nat.min_eq_left hi, Nat.sub_self] at this
          rw [show sz - i = (sz - (i + 1)) + 1 by omega, List.replicate_succ, List.set_cons_zero] at this
          rw [take_succ_nth _ _ hlt]
          simpa using this
        have hs' := hs.grown' (grownBy_set wr ⟨G, i, none⟩ (.int .u8 (nth K i))) (fun b off ha hp e => hap b off ha hp (Option.some.inj e))
        have hb' := hb.setCell (p := ⟨G, i, none⟩) (by simp only; omega) (.int .u8 (nth K i))
        have hd1 : decide ((i : Int) < (K.length : Int)) = true := decide_eq_true (by omega)
        have hd2 : decide ((i : Int) < (sz : Int)) = true := decide_eq_true (by omega)
        have hisz : i < sz := by omega
        clear hL hk hb hc hs
        go_wp2_with fail
        go_roundw
        case rel => exact ⟨i + 1, by omega, by go_num, hsb, hs', hb'⟩
        case measure => simp [intOf]; omega
      · obtain rfl : i = K.length := by omega
        have hd1 : decide ((K.length : Int) < (K.length : Int)) = false := by simp
        have hkf : Blk wr G .u8 5 (key0 h k) := by
          unfold key0
          rw [← HK2.out, ← HSZ.out]
          rw [List.take_length] at hk; exact hk
        clear hk
        go_wp2_with fail
        go_ret
        refine ⟨_, rfl, ?_, hb⟩
        have := New.of_blk hkf hge sz sz (Nat.le_refl _) (by rw [HKL.out]; omega) (by omega)
        rw [List.take_of_length_le (by rw [HKL.out]; omega)] at this
        exact this

set_option maxHeartbeats 4000000 in
set_option maxRecDepth 20000 in
/-- signetlaw5.xor: the bytes, each xor another one, and others behind them. -/
theorem xor5_c (x : Int) (a a' : Option Addr) (cap cap' : Nat) (k d : List Int) (w : World) (hx : Sl .u8 w a cap k) (hy : Sl .u8 w a' cap' d) (hl : k.length + d.length ≤ 140737488355328) :
    Calls Tryd.prog 54 #[.slice a k.length cap, .int .u8 x, .slice a' d.length cap'] w (BytesPost ((k.map fun b => bx b x) ++ d) w) := by
  have mx := Nat.le_trans hx.le hx.max
  have my := Nat.le_trans hy.le hy.max
  go_enter Tryd.func54, Tryd.ntmps54
  go_wp2_with fail
  go_loopw [7, 8] (fun v t wr => ∃ i : Nat, i ≤ k.length ∧ t = .int .i64 (i : Int) ∧ New w.heap.size .u8 5 wr v ((k.take i).map fun b => bx b x) ∧ Below w.heap.size w wr)
    (fun _ t _ => k.length - (intOf t).toNat)
  case atStart => exact ⟨0, by omega, rfl, .nil _ _ _ _, .refl _ _⟩
  case round =>
    obtain ⟨i, hi, rfl, hv, hb⟩ := hrel
    have hbs := hb.size
    obtain ⟨l, hl1⟩ : ∃ l, l = (k.take i).map fun b => bx b x := ⟨_, rfl⟩
    rw [← hl1] at hv
    have HL : Hid (l.length = i) := Lib.hid (by rw [hl1]; simp; omega)
    have HL1 := Lib.hid hl1
    clear hl1
    by_cases hlt : i < k.length
    · obtain ⟨b, off, rfl, hc⟩ := (hx.below hb).cells (by omega)
      have c0 := hc i hlt
      have hxo : bits .xor .u8 (nth k i) x = bx (nth k i) x := rfl
      have fin : Hid (l ++ [bx (nth k i) x] = (k.take (i + 1)).map fun b => bx b x) := Lib.hid (by rw [HL1.out, take_succ_nth _ _ hlt]; simp)
      have hd1 : decide ((i : Int) < (k.length : Int)) = true := decide_eq_true (by omega)
      clear hc
      go_wp2_with (at_builtin; refine wpList_append_new _ rfl _ _ 29 rfl w.heap.size 5 .u8 1 Tryd.underlying29 info8s _ _ rfl (hv.alloc _) _ _ 1 [bx (nth k i) x] rfl rfl (cells_one _ _ _ _ _ rfl) (by have := HL.out; simp; omega) (by have := HL.out; simp; omega) (by simp; omega) ?_)
      intro v' w' hv' hg' _
      have hlt1 := fun g hg => (hv.lt g hg).1
      have hb' : Below w.heap.size w w' := (hb.alloc hbs _).grown hg' (by simp; omega) hlt1
      rw [fin.out] at hv'
      clear hv hg' hb hxo
      go_wp2_with fail
      go_roundw
      case rel => exact ⟨i + 1, by omega, by go_num, hv', hb'⟩
      case measure => simp [intOf]; omega
    · obtain rfl : i = k.length := by omega
      have hd1 : decide ((k.length : Int) < (k.length : Int)) = false := by simp
      have hv0 : New w.heap.size .u8 5 wr u7 ((k.map fun b => bx b x) ++ d.take 0) := by
        have := HL1.out
        rw [List.take_length] at this
        rw [this] at hv
        simpa using hv
      have HLk : Hid ((k.map fun b => bx b x).length = k.length) := Lib.hid (by simp)
      obtain ⟨M, hM⟩ : ∃ M, M = k.map fun b => bx b x := ⟨_, rfl⟩
      rw [← hM] at hv0 HLk
      have HM := Lib.hid hM
      clear hM hv HL HL1
      go_wp2_with fail
      go_loopw [7, 9] (fun v t wr => ∃ i : Nat, i ≤ d.length ∧ t = .int .i64 (i : Int) ∧ New w.heap.size .u8 5 wr v (M ++ d.take i) ∧ Below w.heap.size w wr)
        (fun _ t _ => d.length - (intOf t).toNat)
      case atStart => exact ⟨0, by omega, rfl, hv0, hb⟩
      case round =>
        clear hv0 hb hbs
        obtain ⟨i, hi, rfl, hv, hb⟩ := hrel
        have hbs := hb.size
        by_cases hlt : i < d.length
        · obtain ⟨b, off, rfl, hc⟩ := (hy.below hb).cells (by omega)
          have c0 := hc i hlt
          obtain ⟨l, hl1⟩ : ∃ l, l = M ++ d.take i := ⟨_, rfl⟩
          rw [← hl1] at hv
          have HL : Hid (l.length = k.length + i) := Lib.hid (by rw [hl1, List.length_append, HLk.out]; simp; omega)
          have fin : Hid (l ++ [nth d i] = M ++ d.take (i + 1)) := Lib.hid (by rw [hl1, take_succ_nth _ _ hlt, List.append_assoc])
          have hd1 : decide ((i : Int) < (d.length : Int)) = true := decide_eq_true (by omega)
          clear hc hl1
          go_wp2_with (at_builtin; refine wpList_append_new _ rfl _ _ 29 rfl w.heap.size 5 .u8 1 Tryd.underlying29 info8s _ _ rfl (hv.alloc _) _ _ 1 [nth d i] rfl rfl (cells_one _ _ _ _ _ rfl) (by have := HL.out; simp; omega) (by have := HL.out; simp; omega) (by simp; omega) ?_)
          intro v' w' hv' hg' _
          have hlt1 := fun g hg => (hv.lt g hg).1
          have hb' : Below w.heap.size w w' := (hb.alloc hbs _).grown hg' (by simp; omega) hlt1
          rw [fin.out] at hv'
          clear hv hg' hb
          go_wp2_with fail
          go_roundw
          case rel => exact ⟨i + 1, by omega, by go_num, hv', hb'⟩
          case measure => simp [intOf]; omega
        · obtain rfl : i = d.length := by omega
          have hd1 : decide ((d.length : Int) < (d.length : Int)) = false := by simp
          rw [List.take_length, HM.out] at hv
          go_wp2_with fail
          go_ret
          exact ⟨_, rfl, hv, hb⟩
end Go.Proofs.YtiiedgbdooamaaaDoor
