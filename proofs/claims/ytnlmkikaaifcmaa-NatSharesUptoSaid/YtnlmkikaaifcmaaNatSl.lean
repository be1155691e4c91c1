/- What the calls of package nat hand back, as slices that are read. -/
import Derived.Test.YtnlmkikaaifcmaaNatJ
import Derived.Test.YtnlmkikaaifcmaaNatE
set_option linter.unusedVariables false
set_option linter.unusedSimpArgs false
namespace Go.Proofs.Ytnlmkikaaifcmaa
open Go.RowKit Go.Sg

theorem NatRes.sl {B : Nat} {w : World} {v : Value} {n : Nat} (h : NatRes B w v n) : ∃ a c zs, v = .slice a zs.length c ∧ Sl .u32 w a c zs ∧ Canon zs ∧ U32 zs ∧ val zs = n := by
  obtain ⟨zs, hn, c, u, hv⟩ := h
  obtain ⟨a, cp, he, hs⟩ := hn.sl
  exact ⟨a, cp, zs, he, hs, c, u, hv⟩
/-- What Sub hands back, as a slice that is read. -/
theorem SubPost.sl {m n : Nat} {w : World} {e : Ending} {w' : World} (h : SubPost m n w e w') :
    ∃ a c zs, e = .returned (.tuple #[.slice a zs.length c, .bool (decide (n ≤ m))]) ∧ Sl .u32 w' a c zs ∧ Canon zs ∧ U32 zs ∧ val zs = m - n ∧ Below w.heap.size w w' := by
  by_cases hh : n ≤ m
  · obtain ⟨v, rfl, hr⟩ := h.1 hh
    obtain ⟨a, c, zs, rfl, hs, cz, uz, hv⟩ := hr.sl
    exact ⟨a, c, zs, by rw [decide_eq_true hh], hs, cz, uz, hv, h.2.2⟩
  · refine ⟨none, 0, [], ?_, .nil _ _ _ _ (by omega), .nil, .nil (by omega), by rw [val_nil]; omega, h.2.2⟩
    rw [h.2.1 (by omega), decide_eq_false hh]; rfl
theorem same_val {xs ys : List Int} (cx : Canon xs) (cy : Canon ys) (ux : U32 xs) (uy : U32 ys) (h : val xs = val ys) : decide (xs = ys) = true := decide_eq_true (cx.ext cy ux uy h)
theorem Dr.b {w w' : World} (h : Dr w w') : Below w.heap.size w w' := h.below

/-- What DivMod hands back, as slices that are read. -/
theorem DivPost.sl {m n : Nat} {w : World} {e : Ending} {w' : World} (h : DivPost m n w e w') :
    ∃ aq cq zq ar cr zr, e = .returned (.tuple #[.slice aq zq.length cq, .slice ar zr.length cr, .int .i64 (if n = 0 then 60 else 0)]) ∧ Sl .u32 w' aq cq zq ∧ Canon zq ∧ U32 zq ∧ Sl .u32 w' ar cr zr ∧ Canon zr ∧ U32 zr ∧
      (0 < n → val zq = m / n ∧ val zr = m % n) ∧ (n = 0 → zq = [] ∧ zr = []) ∧ Below w.heap.size w w' := by
  rcases Nat.eq_zero_or_pos n with h0 | h0
  · refine ⟨none, 0, [], none, 0, [], ?_, .nil _ _ _ _ (by omega), .nil, .nil (by omega), .nil _ _ _ _ (by omega), .nil, .nil (by omega), fun h => absurd h (by omega), fun _ => ⟨rfl, rfl⟩, h.2.2⟩
    rw [h.1 h0, if_pos h0]; rfl
  · obtain ⟨vq, vr, rfl, hq, hr, _⟩ := h.2.1 h0
    obtain ⟨aq, cq, zq, rfl, sq, canq, uq, vq⟩ := hq.sl
    obtain ⟨ar, cr, zr, rfl, sr, canr, ur, vr⟩ := hr.sl
    exact ⟨aq, cq, zq, ar, cr, zr, by rw [if_neg (by omega)], sq, canq, uq, sr, canr, ur, fun _ => ⟨vq, vr⟩, fun h => absurd h (by omega), h.2.2⟩

end Go.Proofs.Ytnlmkikaaifcmaa
