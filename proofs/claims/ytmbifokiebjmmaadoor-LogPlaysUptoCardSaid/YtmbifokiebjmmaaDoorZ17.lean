import Derived.Test.YtmbifokiebjmmaaDoorZ16
import Derived.Test.YtmbifokiebjmmaaDoorZ13
import Derived.Test.YtmbifokiebjmmaaDoorZ2
/- signetref36 (sum, Leaf, Pair, hashes, Texts, Check) by their contracts. -/
set_option linter.unusedVariables false
set_option linter.unusedSimpArgs false
namespace Go.Sg
open Go.RowKit
/-- A row of strings that is read. -/
structure Ss (w : World) (a : Option Addr) (cap : Nat) (ss : List (List Int)) : Prop where
  u8 : ∀ s ∈ ss, U8 s
  le : ss.length ≤ cap
  max : cap ≤ 9223372036854775807
  at_ : 0 < ss.length → ∃ b off, a = some ⟨b, off, none⟩ ∧ ∀ j (h : j < ss.length), w.cell? ⟨b, off + j, none⟩ = some (str ss[j])
theorem Ss.below {w w' : World} {a : Option Addr} {cap : Nat} {ss : List (List Int)} (h : Ss w a cap ss) (hb : Below w.heap.size w w') : Ss w' a cap ss := by
  refine ⟨h.u8, h.le, h.max, fun hp => ?_⟩
  obtain ⟨b, off, ha, hc⟩ := h.at_ hp
  refine ⟨b, off, ha, fun j hj => ?_⟩
  rw [World.cell?_of_block (w := w) (hb.block b (World.block_lt_of_cell? w _ (hc 0 hp)))]
  exact hc j hj
theorem Ss.nil (w : World) (a : Option Addr) (cap : Nat) (h : cap ≤ 9223372036854775807) : Ss w a cap [] := ⟨by simp, by simp, h, fun h => by simp at h⟩
theorem NewV.ss {B : Nat} {E : TypeId} {w : World} {v : Value} {ss : List (List Int)} (h : NewV B E w v (ss.map str)) (hu : ∀ s ∈ ss, U8 s) : ∃ a cap, v = .slice a ss.length cap ∧ Ss w a cap ss := by
  obtain ⟨a, cap, hv⟩ := h.sl
  rw [List.length_map] at hv
  subst hv
  have hle : ss.length ≤ cap ∧ cap ≤ 9223372036854775807 := by
    rcases h with ⟨h0, h1⟩ | ⟨g, cap', cs, h0, _, _, h1, _, h2, _⟩
    · simp only [Value.slice.injEq] at h0
      omega
    · simp only [Value.slice.injEq] at h0
      rw [List.length_map] at h1
      omega
  refine ⟨a, cap, rfl, hu, hle.1, hle.2, fun hp => ?_⟩
  obtain ⟨g, ha, _, _⟩ := h.cell 0 (by simpa using hp)
  refine ⟨g, 0, ha, fun j hj => ?_⟩
  obtain ⟨g', ha', _, hc⟩ := h.cell j (by simpa using hj)
  rw [ha] at ha'
  cases ha'
  rw [Nat.zero_add, hc]
  simp
end Go.Sg
namespace Go.Proofs.YtmbifokiebjmmaaDoor
open Go.RowKit Go.Sg
/-- A string, and nothing that was there has turned. -/
def StrPost (xs : List Int) (w : World) (e : Ending) (w' : World) : Prop := e = .returned (str xs) ∧ Below w.heap.size w w'
theorem infoS : (Tryd.prog.info? 9).map (fun i => (i.zero, i.size, i.bytes)) = some (some (str []), 1, 16) := by kernel_rfl

set_option maxHeartbeats 4000000 in
set_option maxRecDepth 20000 in
theorem rSum1_c (a : Option Addr) (cap : Nat) (bs : List Int) (w : World) (hx : Sl .u8 w a cap bs) (ub : U8 bs) (hlen : bs.length ≤ 140737488354000) (ht : RefTabs w) :
    Calls Tryd.prog 61 #[.int .i64 1, .slice a bs.length cap] w (BytesPost (shaD bs) w) := by
  have c := short_c a cap bs w hx ub (by omega) ht
  go_enter Tryd.func61, Tryd.ntmps61
  go_wp2_with fail
  refine c.mono ?_; rintro e w1 ⟨v, rfl, hv, hb⟩
  go_wp2_with fail
  go_ret
  exact ⟨v, rfl, hv, hb⟩

set_option maxHeartbeats 4000000 in
set_option maxRecDepth 20000 in
theorem sum_c (xs : List Int) (w : World) (ux : U8 xs) (hlen : xs.length ≤ 140737488354000) (ht : RefTabs w) :
    Calls Tryd.prog 42 #[str xs] w (StrPost (shaD xs) w) := by
  obtain ⟨w1, cap, hr, s1, hb1⟩ := run_bytes_of (P := Tryd.prog) w 9 25 5 Tryd.underlying9 Tryd.underlying25 Tryd.underlying5 ux (by omega)
  have c := rSum1_c _ cap xs w1 s1 ux hlen (ht.below hb1)
  obtain ⟨d, hd⟩ : ∃ d, d = shaD xs := ⟨_, rfl⟩
  rw [← hd] at c ⊢
  obtain ⟨n, hn⟩ : ∃ n, n = xs.length := ⟨_, rfl⟩
  rw [← hn] at c hr
  clear hn s1 hd
  go_enter Tryd.func42, Tryd.ntmps42
  go_wp2_with fail
  refine c.mono ?_; rintro e w2 ⟨v, rfl, hv, hb2⟩
  obtain ⟨a2, c2, rfl, s2⟩ := hv.sl
  have hr2 := run_str_of (P := Tryd.prog) w2 25 9 5 Tryd.underlying25 Tryd.underlying5 Tryd.underlying9 d.length rfl s2
  clear c hv hr
  go_wp2_with fail
  go_ret
  exact ⟨rfl, hb1.trans (hb2.mono hb1.size)⟩

set_option maxHeartbeats 4000000 in
set_option maxRecDepth 20000 in
theorem rLeaf_c (xs : List Int) (w : World) (ux : U8 xs) (hlen : xs.length ≤ 140737488350000) (ht : RefTabs w) :
    Calls Tryd.prog 19 #[str xs] w (StrPost (leafD xs) w) := by
  have c := sum_c (0 :: xs) w (InR.append (xs := [0]) (by decide) (.one (by decide) (by decide)) ux) (by simp; omega) ht
  have e : (⟨#[0]⟩ : ByteArray) ++ strOfNums xs = strOfNums (0 :: xs) := by rw [str_zero, str_append]; rfl
  have sz : (strOfNums xs).size = xs.length := strOfNums_size xs
  obtain ⟨d, hd⟩ : ∃ d, d = leafD xs := ⟨_, rfl⟩
  rw [show shaD (0 :: xs) = d from hd.symm] at c
  rw [← hd]
  clear hd
  go_enter Tryd.func19, Tryd.ntmps19
  go_wp2_with fail
  refine c.mono ?_; rintro e_ w1 ⟨rfl, hb⟩
  go_wp2_with fail
  go_ret
  exact ⟨rfl, hb⟩

set_option maxHeartbeats 4000000 in
set_option maxRecDepth 20000 in
theorem rPair_c (a b : List Int) (w : World) (ua : U8 a) (ub : U8 b) (hlen : a.length + b.length ≤ 140737488350000) (ht : RefTabs w) :
    Calls Tryd.prog 54 #[str a, str b] w (StrPost (pairD a b) w) := by
  have c := sum_c (textD a b) w (InR.append (xs := [1]) (by decide) (.one (by decide) (by decide)) (.append (by decide) ua ub)) (by simp [textD]; omega) ht
  have e : (⟨#[1]⟩ : ByteArray) ++ strOfNums a = strOfNums (1 :: a) := by rw [str_one, str_append]; rfl
  have e2 : strOfNums (1 :: a) ++ strOfNums b = strOfNums (textD a b) := by rw [str_append]; rfl
  have sz : (strOfNums a).size = a.length := strOfNums_size a
  have sz2 : (strOfNums b).size = b.length := strOfNums_size b
  have sz3 : (strOfNums (1 :: a)).size = a.length + 1 := strOfNums_size _
  obtain ⟨d, hd⟩ : ∃ d, d = pairD a b := ⟨_, rfl⟩
  rw [show shaD (textD a b) = d from hd.symm] at c
  rw [← hd]
  clear hd
  go_enter Tryd.func54, Tryd.ntmps54
  go_wp2_with fail
  refine c.mono ?_; rintro e_ w1 ⟨rfl, hb⟩
  go_wp2_with fail
  go_ret
  exact ⟨rfl, hb⟩

set_option maxHeartbeats 4000000 in
set_option maxRecDepth 20000 in
theorem hashes_c (A : Option Addr) (cap : Nat) (ss : List (List Int)) (w : World) (hs : Ss w A cap ss) :
    Calls Tryd.prog 49 #[.slice A ss.length cap] w (fun e w' => e = .returned (.bool (decide (∀ s ∈ ss, s.length = 32))) ∧ w' = w) := by
  obtain ⟨n, hn⟩ : ∃ n, n = ss.length := ⟨_, rfl⟩
  have HN := Lib.hid hn
  rw [← hn]
  clear hn
  have nm : n ≤ 9223372036854775807 := by have := hs.le; have := hs.max; have := HN.out; omega
  go_enter Tryd.func49, Tryd.ntmps49
  go_wp2_with fail
  go_loopw [3] (fun t wr => ∃ k : Nat, k ≤ n ∧ t = .int .i64 (k : Int) ∧ (∀ s ∈ ss.take k, s.length = 32) ∧ wr = w) (fun t _ => n - (intOf t).toNat)
  case atStart => exact ⟨0, by omega, rfl, by simp, rfl⟩
  case round =>
    obtain ⟨k, hk, rfl, hall, hw⟩ := hrel
    subst hw
    have HA := Lib.hid hall
    clear hall
    by_cases hlt : k < n
    · have hd : decide ((k : Int) < (n : Int)) = true := decide_eq_true (by omega)
      have hki : (k : Int) < (n : Int) := by omega
      obtain ⟨b, off, rfl, hc⟩ := hs.at_ (by have := HN.out; omega)
      have ck := hc k (by have := HN.out; omega)
      obtain ⟨s, hsk⟩ : ∃ s, s = ss[k]'(by have := HN.out; omega) := ⟨_, rfl⟩
      have hmem : s ∈ ss := by rw [hsk]; exact List.getElem_mem _
      rw [← hsk] at ck
      have et : Hid (ss.take (k + 1) = ss.take k ++ [s]) := Lib.hid (by
        rw [List.take_add_one, List.getElem?_eq_getElem (by have := HN.out; omega), ← hsk]
        rfl)
      have sz : (strOfNums s).size = s.length := strOfNums_size s
      clear hc hsk
      by_cases h32 : s.length = 32
      · have g : ((s.length : Int) != 32) = false := by simp; omega
        go_wp2_with fail
        go_roundw
        case rel =>
          refine ⟨k + 1, by omega, by go_num, ?_, by first | trivial | rfl⟩
          rw [et.out]
          intro s' hs'
          rcases List.mem_append.1 hs' with h | h
          · exact HA.out s' h
          · simp at h; rw [h]; exact h32
        case measure => simp [intOf]; omega
      · have g : ((s.length : Int) != 32) = true := by simp; omega
        have e : Hid (decide (∀ s ∈ ss, s.length = 32) = false) := Lib.hid (decide_eq_false fun h => h32 (h s hmem))
        go_wp2_with fail
        go_ret
        exact ⟨by rw [e.out]; rfl, rfl⟩
    · obtain rfl : k = n := by omega
      have hd : decide ((k : Int) < (k : Int)) = false := by simp
      have hall := HA.out
      rw [List.take_of_length_le (by rw [← HN.out]; omega)] at hall
      have e : Hid (decide (∀ s ∈ ss, s.length = 32) = true) := Lib.hid (decide_eq_true hall)
      clear hall
      go_wp2_with fail
      go_ret
      exact ⟨by rw [e.out]; rfl, rfl⟩
end Go.Proofs.YtmbifokiebjmmaaDoor
/- A literal of two strings. No program in sight. -/
namespace Go.Sg
open Go.RowKit
theorem ss_two (w : World) (E : TypeId) (x y : List Int) (ux : U8 x) (uy : U8 y) : Ss (w.alloc (.cells #[str x, str y] E)) (some ⟨w.heap.size, 0, none⟩) 2 [x, y] := by
  refine ⟨fun s hs => ?_, by simp, by omega, fun _ => ⟨w.heap.size, 0, rfl, fun j hj => ?_⟩⟩
  · simp only [List.mem_cons, List.not_mem_nil, or_false] at hs
    rcases hs with rfl | rfl
    · exact ux
    · exact uy
  · rw [Nat.zero_add, cell_of_row (w.alloc (.cells #[str x, str y] E)) w.heap.size j _ E (0, 0) (Go.heap_alloc_new w _)]
    have : j = 0 ∨ j = 1 := by simp at hj; omega
    rcases this with rfl | rfl <;> rfl
end Go.Sg
