/- What the calls of layer 7 hand out, as lists. -/
import Derived.Test.YtadldaidbcdaeaaLawSevenC
import Derived.Test.YtadldaidbcdaeaaLawSevenB
import Derived.Test.YtadldaidbcdaeaaModE
import Derived.Test.YtadldaidbcdaeaaFamP
set_option linter.unusedVariables false
set_option linter.unusedSimpArgs false
namespace Go.Proofs.Ytadldaidbcdaeaa
open Go.RowKit Go.Sg

def OutIs (o : Option Nat) (zs : List Int) : Prop := match o with
  | none => zs = []
  | some n => Canon zs ∧ U32 zs ∧ val zs = n
theorem OutIs.uniq {o : Option Nat} {xs ys : List Int} (h : OutIs o xs) (h' : OutIs o ys) : xs = ys := by
  cases o with
  | none => rw [show xs = [] from h, show ys = [] from h']
  | some n => exact h.1.ext h'.1 h.2.1 h'.2.1 (h.2.2.trans h'.2.2.symm)
def OutPost (o : Option Nat) (W : World) (e : Ending) (w' : World) : Prop := ∃ v c zs, e = .returned (.tuple #[v, .int .i64 c]) ∧ New W.heap.size .u32 52 w' v zs ∧ OutIs o zs ∧ zs.length ≤ 128 ∧ Below W.heap.size W w'
def AnyPost (W : World) (e : Ending) (w' : World) : Prop := ∃ v c zs, e = .returned (.tuple #[v, .int .i64 c]) ∧ New W.heap.size .u32 52 w' v zs ∧ zs.length ≤ 128 ∧ Below W.heap.size W w'
theorem OutPost.any {o : Option Nat} {W : World} {e : Ending} {w' : World} (h : OutPost o W e w') : AnyPost W e w' := by
  obtain ⟨v, c, zs, h1, h2, _, h4, h5⟩ := h
  exact ⟨v, c, zs, h1, h2, h4, h5⟩
theorem lim_mod {m r : Nat} (hm : bigB m = false) (hr : r < m) : Lim 128 r := (lim_of_bl (k := 128) (by have := of_decide_eq_false hm; omega)).of_lt hr
theorem wrong_ok {a b m : Nat} (h : wrongN [a, b, m] = 0) : bigB m = false ∧ 2 ≤ m := by
  rw [wrongN3] at h
  split at h
  · simp at h
  · next k =>
    split at h
    · simp at h
    · next k2 =>
      refine ⟨?_, by omega⟩
      cases hb : bigB m with
      | false => rfl
      | true => exact absurd (.inr (.inr hb)) k
theorem ModPost.out {a b m r : Nat} {W : World} {e : Ending} {w' : World} (h : ModPost (wrongN [a, b, m]) r W e w') (hr : 0 < m → r < m) : OutPost (if wrongN [a, b, m] = 0 then some r else none) W e w' := by
  by_cases hc : wrongN [a, b, m] = 0
  · obtain ⟨v, rfl, zs, hn, hz, hu, hv⟩ := h.2.1 hc
    obtain ⟨h1, h2⟩ := wrong_ok hc
    rw [if_pos hc]
    exact ⟨v, 0, zs, rfl, hn, ⟨hz, hu, hv⟩, (Lim.eq (lim_mod h1 (hr (by omega))) hv).len hz hu, h.2.2⟩
  · rw [if_neg hc]
    exact ⟨_, _, [], h.1 hc, .nil _ _ _ _, rfl, by simp, h.2.2⟩
theorem InvPost.any {a m c : Nat} {W : World} {e : Ending} {w' : World} (h : InvPost a m (wrongN [a, c, m]) W e w') : AnyPost W e w' := by
  by_cases hc : wrongN [a, c, m] = 0
  · obtain ⟨h1, h2⟩ := wrong_ok hc
    by_cases hg : Nat.gcd a m = 1
    · obtain ⟨v, x, rfl, ⟨zs, hn, hz, hu, hv⟩, hx, _⟩ := h.2.2.1 hc hg
      exact ⟨v, 0, zs, rfl, hn, (Lim.eq (lim_mod h1 hx) hv).len hz hu, h.2.2.2⟩
    · exact ⟨_, _, [], h.2.1 hc hg, .nil _ _ _ _, by simp, h.2.2.2⟩
  · exact ⟨_, _, [], h.1 hc, .nil _ _ _ _, by simp, h.2.2.2⟩
theorem subM_lt {a b m : Nat} (h : 0 < m) : subM (a % m) (b % m) m < m := by
  have h1 := Nat.mod_lt a h
  have h2 := Nat.mod_lt b h
  unfold subM
  split <;> omega
theorem infoN : (Try.prog.info? 30).map (fun i => (i.zero, i.size, i.bytes)) = some (some (.slice none 0 0), 1, 24) := by kernel_rfl
theorem fresh_of_new {B : Nat} {k : IntKind} {E : TypeId} {w : World} {v : Value} {xs : List Int} (h : New B k E w v xs) : ∀ g, v.ownBlock = some g → B ≤ g := fun g hg => (h.lt g hg).1
theorem New.kept_mono {B B' : Nat} {k : IntKind} {E : TypeId} {w w' : World} {v : Value} {xs : List Int} (h : New B k E w v xs) (hB : B' ≤ B) (hb : Below w.heap.size w w') : New B' k E w' v xs := (h.mono hB).keep hb
end Go.Proofs.Ytadldaidbcdaeaa
