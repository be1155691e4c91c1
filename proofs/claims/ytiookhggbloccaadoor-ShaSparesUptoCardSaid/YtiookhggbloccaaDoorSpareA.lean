/- signetlaw4: same, roomy, awake, and sums of parts, by their contracts. (Printed by gen_sparea.py.) -/
import Derived.Test.YtiookhggbloccaaDoorHmacN
import Derived.Test.YtiookhggbloccaaDoorOpen
import Derived.Lib.SlBytesConst
import Derived.Outline
set_option linter.unusedVariables false
set_option linter.unusedSimpArgs false
namespace Go.Sg
open Go.RowKit
theorem cut_h {P : Program} (w : World) (T E : TypeId) (hu : P.underlying T = some (.slice E)) (hs : (P.info? E).map (·.size) = some 1) (a : Option Addr) (n cap h : Nat) (h1 : h ≤ cap) (H : Int) (hH : H = h) :
    (Instr.sliceAt T (.slice a n cap) none (some (.int .i64 H)) none).run P w = .ok (.slice (if cap = 0 then a else a.map (·.add 0)) h cap) w := by
  subst hH
  cases hq : P.info? E with
  | none => simp [hq] at hs
  | some i =>
    have hz : i.size = 1 := by simpa [hq] using hs
    simp [Instr.sliceAt, Instr.slice, run_underlying hu, Instr.sliceBounds, run_sliceBound, sizeOf, typeInfo, hq, hz, h1]
theorem cut_h0 {P : Program} (w : World) (T E : TypeId) (hu : P.underlying T = some (.slice E)) (hs : (P.info? E).map (·.size) = some 1) (a : Option Addr) (n cap h : Nat) (h1 : h ≤ cap) :
    (Instr.sliceAt T (.slice a n cap) none (some (.int .i64 (h : Int))) none).run P w = .ok (.slice a h cap) w := by
  rw [cut_h w T E hu hs a n cap h h1 (h : Int) rfl]
  congr 2
  split
  · rfl
  · cases a with
    | none => rfl
    | some ad =>
      obtain ⟨b, off, sp⟩ := ad
      cases sp <;> simp [Addr.add]
theorem rows_new (w : World) (E : TypeId) (ps : List Part) (cs : Array Value) (hcs : cs = (ps.map Part.val).toArray) (hs : ∀ p ∈ ps, Sl .u8 w p.a p.cap p.xs) (hu : ∀ p ∈ ps, U8 p.xs) :
    Rows_ (w.alloc (.cells cs E)) (some ⟨w.heap.size, 0, none⟩) ps := by
  subst hcs
  refine ⟨fun _ => ⟨_, 0, rfl, fun j hj => ?_⟩, fun p hp => (hs p hp).below ((Below.refl _ _).alloc (Nat.le_refl _) _), hu⟩
  rw [Nat.zero_add, cell_of_row (w.alloc (.cells (ps.map Part.val).toArray E)) w.heap.size j _ E (0, 0) (Go.heap_alloc_new w _)]
  simp [hj]
/-- The same memory, further on the tape. -/
def Dr (w w' : World) : Prop := ∃ n, w' = w.drewN n
theorem Dr.refl (w : World) : Dr w w := ⟨0, rfl⟩
theorem Dr.drewN {w w' : World} (h : Dr w w') (n : Nat) : Dr w (w'.drewN n) := by obtain ⟨m, rfl⟩ := h; exact ⟨m + n, by simp⟩
theorem New.head {B : Nat} {k : IntKind} {E : TypeId} {w : World} {a : Option Addr} {n cap : Nat} {xs : List Int} (h : New B k E w (.slice a n cap) xs) (m : Nat) (hm : m ≤ xs.length) (hp : 0 < xs.length) : New B k E w (.slice a m cap) (xs.take m) := by
  rcases h with ⟨hv, rfl⟩ | ⟨g, cp, cs, hv, hg, hh, h1, h2, h3, h4⟩
  · simp at hp
  · simp only [Value.slice.injEq] at hv
    obtain ⟨rfl, rfl, rfl⟩ := hv
    refine .inr ⟨g, cap, cs, ?_, hg, hh, ?_, h2, h3, ?_⟩
    · rw [List.length_take, Nat.min_eq_left hm]
    · rw [List.length_take, Nat.min_eq_left hm]; omega
    · rw [List.length_take, Nat.min_eq_left hm, List.map_take, ← h4, List.take_take, Nat.min_eq_left hm]
/-- The marks behind a roomy copy. -/
def m9 : List Int := List.replicate 9 165
theorem m9_len : m9.length = 9 := rfl
theorem blk_sl {w : World} {E : TypeId} {g : Nat} {xs : List Int} (h : Blk w g .u8 E (xs ++ m9)) (hl : xs.length ≤ 140737488350000) : Sl .u8 w (some ⟨g, 0, none⟩) (xs.length + 9) xs := by
  have := h.sl xs.length (xs.length + 9) (by omega) (by omega)
  rwa [List.take_left] at this
theorem cells_marked (k : IntKind) (w : World) (e : TypeId) (xs : List Int) (C : Array Value) (z : Nat × Nat) (hC : C = (xs.map (Value.int k)).toArray) (n : Nat) (hn : n = w.heap.size) : Cells k (w.alloc (.cells C e z)) (some ⟨n, 0, none⟩) xs := by
  subst hn hC
  intro _
  refine ⟨_, 0, rfl, fun j hj => ?_⟩
  have h : (w.alloc (.cells (xs.map (Value.int k)).toArray e z)).heap[w.heap.size]? = some (.cells (xs.map (Value.int k)).toArray e z) := by
    show (w.heap.push _)[w.heap.size]? = _
    simp
  rw [Nat.zero_add, cell_of_row (w.alloc (.cells (xs.map (Value.int k)).toArray e z)) w.heap.size j _ e z h]
  simp [hj, nth_get _ _ hj]
end Go.Sg
namespace Go.Proofs.YtiookhggbloccaaDoor
open Go.RowKit Go.Sg

/-- Bytes in new memory, and nothing that was there has turned. -/
def BytesPost (xs : List Int) (w : World) (e : Ending) (w' : World) : Prop := ∃ v, e = .returned v ∧ New w.heap.size .u8 5 w' v xs ∧ Below w.heap.size w w'
/-- A bool, and nothing that was there has turned. -/
def TellPost (b : Bool) (w : World) (e : Ending) (w' : World) : Prop := e = .returned (.bool b) ∧ Below w.heap.size w w'
theorem SumPost.from {h : Int} {T : List Int} {w w1 : World} (hb : Below w.heap.size w w1) {e : Ending} {w' : World} (p : SumPost h T w1 e w') : BytesPost (sha h T) w e w' := by
  obtain ⟨v, rfl, hv, hb'⟩ := p
  exact ⟨v, rfl, hv.mono hb.size, hb.trans (hb'.mono hb.size)⟩
theorem Sum1_c (h : Int) (a : Option Addr) (cap : Nat) (xs : List Int) (w : World) (hx : Sl .u8 w a cap xs) (ux : U8 xs) (hlen : xs.length < 2305843009213693952) (ht : ShaTabs w) :
    Calls Tryd.prog 12 #[.int .i64 h, .slice (some ⟨w.heap.size, 0, none⟩) 1 1] (w.alloc (.cells #[.slice a xs.length cap] 23)) (BytesPost (sha h xs) w) := by
  have hb := (Below.refl w.heap.size w).alloc (Nat.le_refl _) (.cells #[.slice a xs.length cap] 23)
  have e : flat [⟨a, cap, xs⟩] = xs := by simp [flat]
  have c := ShaSum_c h (some ⟨w.heap.size, 0, none⟩) 1 [⟨a, cap, xs⟩] _ (rows_new w 23 [⟨a, cap, xs⟩] _ rfl (by simpa using hx) (by simpa using ux)) (by simp) (by rw [e]; exact hlen) (ht.below hb)
  rw [e] at c
  exact c.mono fun e w' p => SumPost.from hb p
theorem Sum2_c (h : Int) (a a' : Option Addr) (cap cap' : Nat) (xs ys : List Int) (w : World) (hx : Sl .u8 w a cap xs) (hy : Sl .u8 w a' cap' ys) (ux : U8 xs) (uy : U8 ys) (hlen : xs.length + ys.length < 2305843009213693952) (ht : ShaTabs w) :
    Calls Tryd.prog 12 #[.int .i64 h, .slice (some ⟨w.heap.size, 0, none⟩) 2 2] (w.alloc (.cells #[.slice a xs.length cap, .slice a' ys.length cap'] 23)) (BytesPost (sha h (xs ++ ys)) w) := by
  have hb := (Below.refl w.heap.size w).alloc (Nat.le_refl _) (.cells #[.slice a xs.length cap, .slice a' ys.length cap'] 23)
  have e : flat [⟨a, cap, xs⟩, ⟨a', cap', ys⟩] = xs ++ ys := by simp [flat]
  have c := ShaSum_c h (some ⟨w.heap.size, 0, none⟩) 2 [⟨a, cap, xs⟩, ⟨a', cap', ys⟩] _ (rows_new w 23 [⟨a, cap, xs⟩, ⟨a', cap', ys⟩] _ rfl (by simp; exact ⟨hx, hy⟩) (by simp; exact ⟨ux, uy⟩)) (by simp) (by rw [e, List.length_append]; exact hlen) (ht.below hb)
  rw [e] at c
  exact c.mono fun e w' p => SumPost.from hb p

set_option maxHeartbeats 2000000 in
theorem same4_c (a a' : Option Addr) (cap cap' : Nat) (xs ys : List Int) (w : World) (hx : Sl .u8 w a cap xs) (hy : Sl .u8 w a' cap' ys) (ux : U8 xs) (uy : U8 ys) :
    Calls Tryd.prog 11 #[.slice a xs.length cap, .slice a' ys.length cap'] w (TellPost (decide (xs = ys)) w) := by
  have mx := Nat.le_trans hx.le hx.max
  have my := Nat.le_trans hy.le hy.max
  by_cases hl : xs.length = ys.length
  · obtain ⟨n, hn⟩ : ∃ n, n = xs.length := ⟨_, rfl⟩
    have HN := Lib.hid hn
    have HM : Hid (n = ys.length) := Lib.hid (by omega)
    have hne : ((n : Int) != (n : Int)) = false := by simp
    rw [← hl, ← hn]
    rw [← hn] at mx
    clear hn hl my
    go_enter Tryd.func11, Tryd.ntmps11
    go_wp2_with fail
    clear hne
    go_loopw [5] (fun t wr => ∃ i : Nat, i ≤ n ∧ t = .int .i64 (i : Int) ∧ xs.take i = ys.take i ∧ Dr w wr) (fun t _ => n - (intOf t).toNat)
    case atStart => exact ⟨0, by omega, rfl, by simp, .refl _⟩
    case round =>
      obtain ⟨i, hi, rfl, he, nd, rfl⟩ := hrel
      have HE := Lib.hid he
      clear he
      by_cases hlt : i < n
      · obtain ⟨b, off, rfl, hc⟩ := hx.cells (by have := HN.out; omega)
        obtain ⟨b', off', rfl, hc'⟩ := hy.cells (by have := HM.out; omega)
        have c0 := hc i (by have := HN.out; omega)
        have c1 := hc' i (by have := HM.out; omega)
        obtain ⟨p, hp⟩ : ∃ p, p = nth xs i := ⟨_, rfl⟩
        obtain ⟨q, hq⟩ : ∃ q, q = nth ys i := ⟨_, rfl⟩
        rw [← hp] at c0
        rw [← hq] at c1
        have hd : decide ((i : Int) < (n : Int)) = true := decide_eq_true (by omega)
        by_cases hpq : p = q
        · have he : Hid (xs.take (i + 1) = ys.take (i + 1)) := Lib.hid (by
            rw [take_succ_nth _ _ (by have := HN.out; omega), take_succ_nth _ _ (by have := HM.out; omega), HE.out, ← hp, ← hq, hpq])
          have g1 : (p != q) = false := by simp [hpq]
          clear hc hc' hp hq hpq hd
          go_wp2_with fail
          go_quiet (fail)
          go_wp2_with fail
          go_roundw
          case rel => exact ⟨i + 1, by omega, by go_num, he.out, (by repeat (first | exact Dr.refl _ | apply Dr.drewN))⟩
          case measure => simp [intOf]; omega
        · have e : Hid (decide (xs = ys) = false) := Lib.hid (decide_eq_false fun e => hpq (by rw [hp, hq, e]))
          have g1 : (p != q) = true := by simp [hpq]
          clear hc hc' hp hq hpq hd
          go_wp2_with fail
          go_quiet (fail)
          go_wp2_with fail
          go_ret
          exact ⟨by rw [e.out]; first | done | rfl, (by repeat (first | exact Below.refl _ _ | apply below_drewN))⟩
      · obtain rfl : i = n := by omega
        have e : Hid (decide (xs = ys) = true) := Lib.hid (decide_eq_true (by
          have := HE.out
          rwa [List.take_of_length_le (by have := HN.out; omega), List.take_of_length_le (by have := HM.out; omega)] at this))
        go_wp2_with fail
        go_ret
        exact ⟨by rw [e.out]; first | done | rfl, (by repeat (first | exact Below.refl _ _ | apply below_drewN))⟩
  · have hne : ((xs.length : Int) != (ys.length : Int)) = true := by simp; omega
    have e : Hid (decide (xs = ys) = false) := Lib.hid (decide_eq_false fun e => hl (by rw [e]))
    clear hl
    go_enter Tryd.func11, Tryd.ntmps11
    go_wp2_with fail
    go_ret
    exact ⟨by rw [e.out]; first | done | rfl, .refl _ _⟩
def RoomPost (xs : List Int) (w : World) (e : Ending) (w' : World) : Prop := ∃ g, e = .returned (.slice (some ⟨g, 0, none⟩) xs.length (xs.length + 9)) ∧ w.heap.size ≤ g ∧ Blk w' g .u8 5 (xs ++ m9) ∧ Below w.heap.size w w'

set_option maxHeartbeats 4000000 in
set_option maxRecDepth 20000 in
theorem roomy_c (a : Option Addr) (cap : Nat) (xs : List Int) (w : World) (hx : Sl .u8 w a cap xs) (hl : xs.length ≤ 140737488350000) :
    Calls Tryd.prog 10 #[.slice a xs.length cap] w (RoomPost xs w) := by
  obtain ⟨n, hn⟩ : ∃ n, n = xs.length := ⟨_, rfl⟩
  have HN := Lib.hid hn
  rw [← hn] at hl ⊢
  clear hn
  go_enter Tryd.func10, Tryd.ntmps10
  go_wp2_with (at_make; refine wpList_make_blk _ rfl _ _ 23 rfl 5 .u8 1 Tryd.underlying23 info8s (n + 9) _ _ rfl rfl (by omega) (by omega) (by omega) (by omega) ?_)
  intro w1 hk1 hs1 hb1
  have hx1 := hx.below hb1
  obtain ⟨G, hG⟩ : ∃ G, G = w.heap.size := ⟨_, rfl⟩
  rw [← hG] at hk1 ⊢
  have hge : w.heap.size ≤ G := by omega
  clear hG hx hs1
  go_wp2_with (with_reducible refine wpList_copy_blk rfl _ _ 23 23 rfl 5 Tryd.underlying23 size8 _ G 0 _ _ _ _ _ rfl rfl .u8 _ xs hk1 hx1.cells HN.out.symm (fun _ _ => rfl) (by rw [List.length_replicate]; omega) ?_)
  intro w2 hk2 hg2 hs2
  have hb2 : Below w.heap.size w w2 := hb1.grown hg2 (by have := hb1.size; omega) (by simp; omega)
  have hk3 : Blk w2 G .u8 5 (xs ++ (List.replicate 0 165 ++ List.replicate (9 - 0) 0)) := by
    have e : xs.take (n + 9) ++ List.replicate (n + 9 - n) (0 : Int) = xs ++ (List.replicate 0 165 ++ List.replicate (9 - 0) 0) := by
      rw [List.take_of_length_le (by rw [← HN.out]; omega), show n + 9 - n = 9 by omega]
      rfl
    have h2 := hk2
    rw [← e]
    simpa [Nat.min_eq_left (show n ≤ n + 9 by omega)] using h2
  clear hk1 hk2 hg2 hb1 hs2 hx1
  go_wp2_with fail
  go_loopw [4] (fun t wr => ∃ j : Nat, j ≤ 9 ∧ t = .int .i64 ((n + j : Nat) : Int) ∧ Blk wr G .u8 5 (xs ++ (List.replicate j 165 ++ List.replicate (9 - j) 0)) ∧ Below w.heap.size w wr)
    (fun t _ => n + 9 - (intOf t).toNat)
  case atStart => exact ⟨0, by omega, by rw [Nat.add_zero], hk3, hb2⟩
  case round =>
    clear hk3 hb2
    obtain ⟨j, hj, rfl, hk, hb⟩ := hrel
    obtain ⟨i, hi⟩ : ∃ i, i = n + j := ⟨_, rfl⟩
    rw [← hi]
    have HI := Lib.hid hi
    by_cases hlt : j < 9
    · have ll : (xs ++ (List.replicate j (165 : Int) ++ List.replicate (9 - j) 0)).length = n + 9 := by simp [HN.out]; omega
      have c0 := hk.cell i (by rw [ll]; omega)
      have f0 := hk.free i
      have hs := hk.set i 165
      have fin : Hid ((xs ++ (List.replicate j 165 ++ List.replicate (9 - j) 0)).set i 165 = xs ++ (List.replicate (j + 1) 165 ++ List.replicate (9 - (j + 1)) 0)) := Lib.hid (by
        rw [List.set_append_right _ _ (by rw [← HN.out]; omega), ← HN.out, List.set_append_right _ _ (by rw [List.length_replicate]; omega), List.length_replicate, show i - n - j = 0 by omega,
          show 9 - j = (9 - (j + 1)) + 1 by omega, List.replicate_succ (n := 9 - (j + 1)), List.set_cons_zero, List.replicate_succ' (n := j), List.append_assoc]
        rfl)
      rw [fin.out] at hs
      have hb' := hb.setCell (p := ⟨G, i, none⟩) hge (.int .u8 165)
      have hin : (i : Int) < (n : Int) + 9 := by omega
      have hin2 : i < n + 9 := by omega
      have hd1 : decide ((i : Int) < (n : Int) + 9) = true := decide_eq_true hin
      clear hk hb ll hi
      go_wp2_with fail
      go_roundw
      case rel => exact ⟨j + 1, by omega, by have := HI.out; go_num, hs, hb'⟩
      case measure => have := HI.out; simp [intOf]; omega
    · obtain rfl : j = 9 := by omega
      have hkf : Blk wr G .u8 5 (xs ++ m9) := by simpa [m9] using hk
      have hin : ¬ (i : Int) < (n : Int) + 9 := by omega
      have hin2 : ¬ i < n + 9 := by omega
      have hd1 : decide ((i : Int) < (n : Int) + 9) = false := decide_eq_false hin
      have hcut := fun W => cut_h0 (P := Tryd.prog) W 23 5 Tryd.underlying23 size8 (some ⟨G, 0, none⟩) (n + 9) (n + 9) n (by omega)
      clear hk hi
      go_wp2_with fail
      go_ret
      exact ⟨G, by rw [← HN.out]; first | done | rfl, hge, hkf, hb⟩

theorem sha_abc1 : nth (sha 1 [97, 98, 99]) 0 = 186 ∧ nth (sha 1 [97, 98, 99]) 31 = 173 := by rw [sha_abc256]; exact ⟨rfl, rfl⟩
theorem infoS : (Tryd.prog.info? 23).map (fun i => (i.zero, i.size, i.bytes)) = some (some (.slice none 0 0), 1, 24) := by kernel_rfl

set_option maxHeartbeats 4000000 in
set_option maxRecDepth 20000 in
theorem awake_c (w : World) (ht : ShaTabs w) : Calls Tryd.prog 4 #[] w (TellPost true w) := by
  obtain ⟨J, hJ⟩ : ∃ J : List Int, J = [97, 98, 99] := ⟨_, rfl⟩
  have jl : J.length = 3 := by rw [hJ]; rfl
  have uJ : U8 J := by rw [hJ]; exact .of_mem (by omega) (by decide)
  have a1 : nth (sha 1 J) 0 = 186 ∧ nth (sha 1 J) 31 = 173 := by rw [hJ]; exact sha_abc1
  have a2 : nth (sha 2 J) 0 = 203 ∧ nth (sha 2 J) 47 = 167 := by rw [hJ]; exact sha_abc384
  have a3 : nth (sha 3 J) 0 = 221 ∧ nth (sha 3 J) 63 = 159 := by rw [hJ]; exact sha_abc512
  have cv := fun W => Lib.run_convert_bytes_const (P := Tryd.prog) W 23 5 #[.int .u8 97, .int .u8 98, .int .u8 99] 3 3 Tryd.underlying23 Tryd.underlying5
  simp only [List.size_toArray, List.length_cons, List.length_nil, Nat.zero_add, Nat.reduceAdd] at cv
  have lay : ∀ W : World, Sl .u8 (W.alloc (.cells #[.int .u8 97, .int .u8 98, .int .u8 99] 5 (3, 4))) (some ⟨W.heap.size, 0, none⟩) 3 J ∧ Below W.heap.size W (W.alloc (.cells #[.int .u8 97, .int .u8 98, .int .u8 99] 5 (3, 4))) :=
    fun W => ⟨⟨by omega, by omega, cells_marked .u8 W 5 J _ _ (by rw [hJ]; rfl) _ rfl⟩, (Below.refl _ _).alloc (Nat.le_refl _) _⟩
  have hc : ∀ (h : Int) (W : World), ShaTabs W → Calls Tryd.prog 12 #[.int .i64 h, .slice (some ⟨W.heap.size + 1, 0, none⟩) 1 1] ((W.alloc (.cells #[.int .u8 97, .int .u8 98, .int .u8 99] 5 (3, 4))).alloc (.cells #[.slice (some ⟨W.heap.size, 0, none⟩) 3 3] 23)) (BytesPost (sha h J) W) := by
    intro h W t
    have c := Sum1_c h (some ⟨W.heap.size, 0, none⟩) 3 J _ (lay W).1 uJ (by omega) (t.below (lay W).2)
    have e : (W.alloc (.cells #[.int .u8 97, .int .u8 98, .int .u8 99] 5 (3, 4))).heap.size = W.heap.size + 1 := by simp
    rw [e, jl] at c
    refine c.mono ?_
    rintro e' w' ⟨v, rfl, hv, hb⟩
    exact ⟨v, rfl, hv.mono (by rw [e]; omega), (lay W).2.trans (hb.mono (by rw [e]; omega))⟩
  have hl1 : Hid ((sha 1 J).length = 32) := Lib.hid (by rw [sha_len]; rfl)
  have hl2 : Hid ((sha 2 J).length = 48) := Lib.hid (by rw [sha_len]; rfl)
  have hl3 : Hid ((sha 3 J).length = 64) := Lib.hid (by rw [sha_len]; rfl)
  have h1 := hc 1
  have h2 := hc 2
  have h3 := hc 3
  obtain ⟨S1, hS1⟩ : ∃ S, S = sha 1 J := ⟨_, rfl⟩
  obtain ⟨S2, hS2⟩ : ∃ S, S = sha 2 J := ⟨_, rfl⟩
  obtain ⟨S3, hS3⟩ : ∃ S, S = sha 3 J := ⟨_, rfl⟩
  rw [← hS1] at a1 hl1 h1
  rw [← hS2] at a2 hl2 h2
  rw [← hS3] at a3 hl3 h3
  obtain ⟨a10, a11⟩ := a1
  obtain ⟨a20, a21⟩ := a2
  obtain ⟨a30, a31⟩ := a3
  clear hJ jl hS1 hS2 hS3 hc lay
  go_enter Tryd.func4, Tryd.ntmps4
  go_wp2_with fail
  refine (h1 w ht).mono ?_; rintro e w1 ⟨v, rfl, hv, hb1⟩
  obtain ⟨b1, c1, rfl, s1⟩ := hv.sl
  have ht1 := ht.below hb1
  rw [hl1.out]
  clear hv h1
  go_wp2_with fail
  refine (h2 w1 ht1).mono ?_; rintro e w2 ⟨v, rfl, hv, hb2⟩
  obtain ⟨b2, c2, rfl, s2⟩ := hv.sl
  have ht2 := ht1.below hb2
  replace s1 := s1.below hb2
  have hB2 := hb1.trans (hb2.mono hb1.size)
  rw [hl2.out]
  clear hv h2 ht1 hb1 hb2
  go_wp2_with fail
  refine (h3 w2 ht2).mono ?_; rintro e w3 ⟨v, rfl, hv, hb3⟩
  obtain ⟨b3, c3, rfl, s3⟩ := hv.sl
  replace s1 := s1.below hb3
  replace s2 := s2.below hb3
  have hB3 := hB2.trans (hb3.mono hB2.size)
  rw [hl3.out]
  clear hv h3 ht2 hb3 hB2
  obtain ⟨d1, o1, rfl, k1⟩ := s1.cells (by rw [hl1.out]; omega)
  obtain ⟨d2, o2, rfl, k2⟩ := s2.cells (by rw [hl2.out]; omega)
  obtain ⟨d3, o3, rfl, k3⟩ := s3.cells (by rw [hl3.out]; omega)
  have q10 := k1 0 (by rw [hl1.out]; omega)
  have q11 := k1 31 (by rw [hl1.out]; omega)
  have q20 := k2 0 (by rw [hl2.out]; omega)
  have q21 := k2 47 (by rw [hl2.out]; omega)
  have q30 := k3 0 (by rw [hl3.out]; omega)
  have q31 := k3 63 (by rw [hl3.out]; omega)
  rw [Nat.add_zero, a10] at q10
  rw [Nat.add_zero, a20] at q20
  rw [Nat.add_zero, a30] at q30
  rw [a11] at q11
  rw [a21] at q21
  rw [a31] at q31
  clear k1 k2 k3 s1 s2 s3
  go_wp2_with fail
  go_ret
  exact ⟨rfl, hB3⟩


end Go.Proofs.YtiookhggbloccaaDoor
