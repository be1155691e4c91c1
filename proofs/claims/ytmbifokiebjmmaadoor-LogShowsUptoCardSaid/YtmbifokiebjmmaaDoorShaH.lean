/- package sha: Sum of parts by its contract. -/
import Derived.Test.YtmbifokiebjmmaaDoorShaG
set_option linter.unusedVariables false
set_option linter.unusedSimpArgs false
namespace Go.Sg
open Go.RowKit

/-- A part: its address, its room, its bytes. -/
structure Part where
  a : Option Addr
  cap : Nat
  xs : List Int
def Part.val (p : Part) : Value := .slice p.a p.xs.length p.cap
/-- The parts' bytes, one behind the other. -/
def flat (ps : List Part) : List Int := ps.flatMap (·.xs)
/-- A row of slices of bytes at an address that may be missing where there is none. -/
structure Rows_ (w : World) (A : Option Addr) (ps : List Part) : Prop where
  at_ : 0 < ps.length → ∃ b off, A = some ⟨b, off, none⟩ ∧ ∀ j (h : j < ps.length), w.cell? ⟨b, off + j, none⟩ = some (ps[j]).val
  sl : ∀ p ∈ ps, Sl .u8 w p.a p.cap p.xs
  u8 : ∀ p ∈ ps, U8 p.xs
theorem Rows_.nil (w : World) (A : Option Addr) : Rows_ w A [] := ⟨fun h => by simp at h, fun p hp => by simp at hp, fun p hp => by simp at hp⟩
theorem Rows_.below {w w' : World} {A : Option Addr} {ps : List Part} (h : Rows_ w A ps) (hb : Below w.heap.size w w') : Rows_ w' A ps := by
  refine ⟨fun hp => ?_, fun p hp => (h.sl p hp).below hb, h.u8⟩
  obtain ⟨b, off, rfl, hc⟩ := h.at_ hp
  exact ⟨b, off, rfl, fun j hj => (hb.cell (World.block_lt_of_cell? w _ (hc j hj))).trans (hc j hj)⟩
theorem flat_take_succ (ps : List Part) (k : Nat) (h : k < ps.length) : flat (ps.take (k + 1)) = flat (ps.take k) ++ (ps[k]).xs := by
  unfold flat
  rw [List.take_succ_eq_append_getElem h, List.flatMap_append]; simp
theorem flat_len_le (ps : List Part) (k : Nat) : (flat (ps.take k)).length ≤ (flat ps).length := by
  have h : flat ps = flat (ps.take k) ++ flat (ps.drop k) := by
    unfold flat
    rw [← List.flatMap_append, List.take_append_drop]
  rw [h, List.length_append]; omega
theorem sha_no {h : Int} (hh : ¬ IsHash h) (T : List Int) : sha h T = [] := by
  unfold sha
  rw [if_neg fun e => hh (.inl e), if_neg fun e => hh (.inr (.inl e)), if_neg fun e => hh (.inr (.inr e))]
instance (h : Int) : Decidable (IsHash h) := by unfold IsHash; infer_instance
end Go.Sg
namespace Go.Proofs.YtmbifokiebjmmaaDoor
open Go.RowKit Go.Sg

set_option maxHeartbeats 2000000 in
theorem ShaSum_c (h : Int) (A : Option Addr) (cap : Nat) (ps : List Part) (w : World) (hr : Rows_ w A ps) (hn : ps.length ≤ 9223372036854775807) (hlen : (flat ps).length < 2305843009213693952) (ht : ShaTabs w) :
    Calls Tryd.prog 62 #[.int .i64 h, .slice A ps.length cap] w (SumPost h (flat ps) w) := by
  by_cases hh : IsHash h
  · go_enter Tryd.func62, Tryd.ntmps62
    go_wp2_with fail
    refine (New_c h hh w ht).mono ?_; rintro e w1 ⟨g, rfl, hg, hs, hb⟩
    obtain ⟨N, hN⟩ : ∃ N, N = ps.length := ⟨_, rfl⟩
    rw [← hN] at hn ⊢
    have HN := Lib.hid hN
    clear hN
    go_wp2_with fail
    go_loopw [14] (fun t wr => ∃ k : Nat, k ≤ N ∧ t = .int .i64 (k : Int) ∧ ShaSt wr g h (flat (ps.take k)) ∧ Below w.heap.size w wr)
      (fun t _ => N - (intOf t).toNat)
    case atStart => exact ⟨0, by omega, rfl, hs, hb⟩
    case round =>
      clear hs hb
      obtain ⟨k, hk, rfl, hs, hb⟩ := hrel
      have htr := ht.below hb
      by_cases hlt : k < N
      · have hkp : k < ps.length := by rw [← HN.out]; exact hlt
        have hr1 := hr.below hb
        obtain ⟨b, off, rfl, hc⟩ := hr1.at_ (by omega)
        have hck := hc k hkp
        have hsl := hr1.sl _ (List.getElem_mem hkp)
        have hap := (hr.sl _ (List.getElem_mem hkp)).apart hg
        have hu := hr.u8 _ (List.getElem_mem hkp)
        have hfl := Lib.hid (flat_take_succ ps k hkp)
        obtain ⟨p, hp⟩ : ∃ p, p = ps[k] := ⟨_, rfl⟩
        rw [← hp] at hck hsl hu hfl hap
        have HP := Lib.hid hp
        rw [Part.val] at hck
        have wc := Write_c g h (flat (ps.take k)) p.a p.cap p.xs wr hs hsl hu hap htr
        rw [← hfl.out] at wc
        have hgs := hs.lt
        have hk2 : (k : Int) < (N : Int) := by omega
        clear HP
        clear hc hp hkp hsl hap hs hr1
        go_wp2_with fail
        refine wc.mono ?_; rintro e w2 ⟨rfl, hs2, hg2⟩
        have hb2 := below_then hb hg2 hg hb.size
        clear wc hg2 hb
        go_wp2_with fail
        go_roundw
        case rel => exact ⟨k + 1, by omega, by go_num, hs2, hb2⟩
        case measure => simp [intOf]; omega
      · obtain rfl : k = N := by omega
        rw [List.take_of_length_le (by rw [HN.out]; omega)] at hs
        go_wp2_with fail
        refine (StSum_c g h (flat ps) wr hs hlen htr).mono ?_; rintro e w2 ⟨v, rfl, hv, hb2⟩
        go_wp2_with fail
        go_ret
        exact ⟨v, rfl, hv.mono hb.size, hb.trans (hb2.mono hb.size)⟩
  · go_enter Tryd.func62, Tryd.ntmps62
    go_wp2_with fail
    refine (New_no h hh w).mono ?_; rintro e w1 ⟨rfl, hb⟩
    go_wp2_with fail
    go_ret
    exact ⟨_, rfl, by rw [sha_no hh]; exact .nil _ _ _ _, hb⟩
end Go.Proofs.YtmbifokiebjmmaaDoor
