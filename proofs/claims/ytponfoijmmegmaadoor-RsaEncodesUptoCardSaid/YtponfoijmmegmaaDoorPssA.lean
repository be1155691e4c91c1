/- sha.Sum of parts, signetref4.Sum, signetlaw10's same, roomy, spared, by their contracts. (Printed by gen_psst.py.) -/
import Derived.Test.YtponfoijmmegmaaDoorHmacN
import Derived.Test.YtponfoijmmegmaaDoorCutH
import Derived.Test.YtponfoijmmegmaaDoorOpen
set_option linter.unusedVariables false
set_option linter.unusedSimpArgs false
namespace Go.Sg
open Go.RowKit
theorem rows_new (w : World) (E : TypeId) (ps : List Part) (cs : Array Value) (hcs : cs = (ps.map Part.val).toArray) (hs : ∀ p ∈ ps, Sl .u8 w p.a p.cap p.xs) (hu : ∀ p ∈ ps, U8 p.xs) :
    Rows_ (w.alloc (.cells cs E)) (some ⟨w.heap.size, 0, none⟩) ps := by
  subst hcs
  refine ⟨fun _ => ⟨_, 0, rfl, fun j hj => ?_⟩, fun p hp => (hs p hp).below ((Below.refl _ _).alloc (Nat.le_refl _) _), hu⟩
  rw [Nat.zero_add, cell_of_row (w.alloc (.cells (ps.map Part.val).toArray E)) w.heap.size j _ E (0, 0) (Go.heap_alloc_new w _)]
  simp [hj]
/-- The same memory, further on the tape. -/
def Dr (w w' : World) : Prop := ∃ n, w' = w.drewN n
theorem Dr.refl (w : World) : Dr w w := ⟨0, rfl⟩
theorem Dr.drewN {w w' : World} (h : Dr w w') (n : Nat) : Dr w (w'.drewN n) := by obtain ⟨m, rfl⟩ := h; exact ⟨m + n, by simp⟩
theorem New.head {B : Nat} {k : IntKind} {E : TypeId} {w : World} {a : Option Addr} {n cap : Nat} {xs : List Int} (h : New B k E w (.slice a n cap) xs) (m : Nat) (hm : m ≤ xs.length) (hp : 0 < xs.length) : New B k E w (.slice a m cap) (xs.take m) := by
  rcases h with ⟨hv, rfl⟩ | ⟨g, cp, cs, hv, hg, hh, h1, h2, h3, h4⟩
  · simp at hp
  · simp only [Value.slice.injEq] at hv
    obtain ⟨rfl, rfl, rfl⟩ := hv
    refine .inr ⟨g, cap, cs, ?_, hg, hh, ?_, h2, h3, ?_⟩
    · rw [List.length_take, Nat.min_eq_left hm]
    · rw [List.length_take, Nat.min_eq_left hm]; omega
    · rw [List.length_take, Nat.min_eq_left hm, List.map_take, ← h4, List.take_take, Nat.min_eq_left hm]
theorem sum64_len (s : S8 64) (bs : List Int) : (sum64 s bs).length = 64 := by unfold sum64; rw [flat64_len]; rfl
/-- The marks behind a roomy copy. -/
def m9 : List Int := List.replicate 9 165
theorem m9_len : m9.length = 9 := rfl
theorem blk_sl {w : World} {E : TypeId} {g : Nat} {xs : List Int} (h : Blk w g .u8 E (xs ++ m9)) (hl : xs.length ≤ 140737488350000) : Sl .u8 w (some ⟨g, 0, none⟩) (xs.length + 9) xs := by
  have := h.sl xs.length (xs.length + 9) (by omega) (by omega)
  rwa [List.take_left] at this
end Go.Sg
namespace Go.Proofs.YtponfoijmmegmaaDoor
open Go.RowKit Go.Sg

/-- A bool, and nothing that was there has turned. -/
def TellPost (b : Bool) (w : World) (e : Ending) (w' : World) : Prop := e = .returned (.bool b) ∧ Below w.heap.size w w'
theorem SumPost.from {h : Int} {T : List Int} {w w1 : World} (hb : Below w.heap.size w w1) {e : Ending} {w' : World} (p : SumPost h T w1 e w') : BytesPost (sha h T) w e w' := by
  obtain ⟨v, rfl, hv, hb'⟩ := p
  exact ⟨v, rfl, hv.mono hb.size, hb.trans (hb'.mono hb.size)⟩
theorem Sum1_c (h : Int) (a : Option Addr) (cap : Nat) (xs : List Int) (w : World) (hx : Sl .u8 w a cap xs) (ux : U8 xs) (hlen : xs.length < 2305843009213693952) (ht : ShaTabs w) :
    Calls Tryd.prog 20 #[.int .i64 h, .slice (some ⟨w.heap.size, 0, none⟩) 1 1] (w.alloc (.cells #[.slice a xs.length cap] 23)) (BytesPost (sha h xs) w) := by
  have hb := (Below.refl w.heap.size w).alloc (Nat.le_refl _) (.cells #[.slice a xs.length cap] 23)
  have e : flat [⟨a, cap, xs⟩] = xs := by simp [flat]
  have c := ShaSum_c h (some ⟨w.heap.size, 0, none⟩) 1 [⟨a, cap, xs⟩] _ (rows_new w 23 [⟨a, cap, xs⟩] _ rfl (by simpa using hx) (by simpa using ux)) (by simp) (by rw [e]; exact hlen) (ht.below hb)
  rw [e] at c
  exact c.mono fun e w' p => SumPost.from hb p
theorem Sum2_c (h : Int) (a a' : Option Addr) (cap cap' : Nat) (xs ys : List Int) (w : World) (hx : Sl .u8 w a cap xs) (hy : Sl .u8 w a' cap' ys) (ux : U8 xs) (uy : U8 ys) (hlen : xs.length + ys.length < 2305843009213693952) (ht : ShaTabs w) :
    Calls Tryd.prog 20 #[.int .i64 h, .slice (some ⟨w.heap.size, 0, none⟩) 2 2] (w.alloc (.cells #[.slice a xs.length cap, .slice a' ys.length cap'] 23)) (BytesPost (sha h (xs ++ ys)) w) := by
  have hb := (Below.refl w.heap.size w).alloc (Nat.le_refl _) (.cells #[.slice a xs.length cap, .slice a' ys.length cap'] 23)
  have e : flat [⟨a, cap, xs⟩, ⟨a', cap', ys⟩] = xs ++ ys := by simp [flat]
  have c := ShaSum_c h (some ⟨w.heap.size, 0, none⟩) 2 [⟨a, cap, xs⟩, ⟨a', cap', ys⟩] _ (rows_new w 23 [⟨a, cap, xs⟩, ⟨a', cap', ys⟩] _ rfl (by simp; exact ⟨hx, hy⟩) (by simp; exact ⟨ux, uy⟩)) (by simp) (by rw [e, List.length_append]; exact hlen) (ht.below hb)
  rw [e] at c
  exact c.mono fun e w' p => SumPost.from hb p

set_option maxHeartbeats 2000000 in
theorem same10_c (a a' : Option Addr) (cap cap' : Nat) (xs ys : List Int) (w : World) (hx : Sl .u8 w a cap xs) (hy : Sl .u8 w a' cap' ys) (ux : U8 xs) (uy : U8 ys) :
    Calls Tryd.prog 12 #[.slice a xs.length cap, .slice a' ys.length cap'] w (TellPost (decide (xs = ys)) w) := by
  have mx := Nat.le_trans hx.le hx.max
  have my := Nat.le_trans hy.le hy.max
  by_cases hl : xs.length = ys.length
  · obtain ⟨n, hn⟩ : ∃ n, n = xs.length := ⟨_, rfl⟩
    have HN := Lib.hid hn
    have HM : Hid (n = ys.length) := Lib.hid (by omega)
    have hne : ((n : Int) != (n : Int)) = false := by simp
    rw [← hl, ← hn]
    rw [← hn] at mx
    clear hn hl my
    go_enter Tryd.func12, Tryd.ntmps12
    go_wp2_with fail
    clear hne
    go_loopw [5] (fun t wr => ∃ i : Nat, i ≤ n ∧ t = .int .i64 (i : Int) ∧ xs.take i = ys.take i ∧ Dr w wr) (fun t _ => n - (intOf t).toNat)
    case atStart => exact ⟨0, by omega, rfl, by simp, .refl _⟩
    case round =>
      obtain ⟨i, hi, rfl, he, nd, rfl⟩ := hrel
      have HE := Lib.hid he
      clear he
      by_cases hlt : i < n
      · obtain ⟨b, off, rfl, hc⟩ := hx.cells (by have := HN.out; omega)
        obtain ⟨b', off', rfl, hc'⟩ := hy.cells (by have := HM.out; omega)
        have c0 := hc i (by have := HN.out; omega)
        have c1 := hc' i (by have := HM.out; omega)
        obtain ⟨p, hp⟩ : ∃ p, p = nth xs i := ⟨_, rfl⟩
        obtain ⟨q, hq⟩ : ∃ q, q = nth ys i := ⟨_, rfl⟩
        rw [← hp] at c0
        rw [← hq] at c1
        have hd : decide ((i : Int) < (n : Int)) = true := decide_eq_true (by omega)
        by_cases hpq : p = q
        · have he : Hid (xs.take (i + 1) = ys.take (i + 1)) := Lib.hid (by
            rw [take_succ_nth _ _ (by have := HN.out; omega), take_succ_nth _ _ (by have := HM.out; omega), HE.out, ← hp, ← hq, hpq])
          have g1 : (p != q) = false := by simp [hpq]
          clear hc hc' hp hq hpq hd
          go_wp2_with fail
          go_quiet (fail)
          go_wp2_with fail
          go_roundw
          case rel => exact ⟨i + 1, by omega, by go_num, he.out, (by repeat (first | exact Dr.refl _ | apply Dr.drewN))⟩
          case measure => simp [intOf]; omega
        · have e : Hid (decide (xs = ys) = false) := Lib.hid (decide_eq_false fun e => hpq (by rw [hp, hq, e]))
          have g1 : (p != q) = true := by simp [hpq]
          clear hc hc' hp hq hpq hd
          go_wp2_with fail
          go_quiet (fail)
          go_wp2_with fail
          go_ret
          exact ⟨by rw [e.out]; first | done | rfl, (by repeat (first | exact Below.refl _ _ | apply below_drewN))⟩
      · obtain rfl : i = n := by omega
        have e : Hid (decide (xs = ys) = true) := Lib.hid (decide_eq_true (by
          have := HE.out
          rwa [List.take_of_length_le (by have := HN.out; omega), List.take_of_length_le (by have := HM.out; omega)] at this))
        go_wp2_with fail
        go_ret
        exact ⟨by rw [e.out]; first | done | rfl, (by repeat (first | exact Below.refl _ _ | apply below_drewN))⟩
  · have hne : ((xs.length : Int) != (ys.length : Int)) = true := by simp; omega
    have e : Hid (decide (xs = ys) = false) := Lib.hid (decide_eq_false fun e => hl (by rw [e]))
    clear hl
    go_enter Tryd.func12, Tryd.ntmps12
    go_wp2_with fail
    go_ret
    exact ⟨by rw [e.out]; first | done | rfl, .refl _ _⟩
end Go.Proofs.YtponfoijmmegmaaDoor
