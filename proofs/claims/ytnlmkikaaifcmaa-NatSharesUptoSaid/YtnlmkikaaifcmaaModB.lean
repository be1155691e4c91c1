/- package modn: Exp, half, by their contracts; numbers that lie somewhere. (Printed by gen_modb.py.) -/
import Derived.Test.YtnlmkikaaifcmaaModA
import Derived.Test.YtnlmkikaaifcmaaNatK
set_option linter.unusedVariables false
set_option linter.unusedSimpArgs false
namespace Go.Proofs.Ytnlmkikaaifcmaa
open Go.RowKit Go.Sg

/-- A slice that reads as a number. -/
def NumAt (w : World) (v : Value) (n : Nat) : Prop := ∃ a c zs, v = .slice a zs.length c ∧ Sl .u32 w a c zs ∧ U32 zs ∧ val zs = n ∧ zs.length ≤ 17592186044415
theorem NumAt.below {w w' : World} {v : Value} {n : Nat} (h : NumAt w v n) (hb : Below w.heap.size w w') : NumAt w' v n := by
  obtain ⟨a, c, zs, e, s, u, hv, hl⟩ := h
  exact ⟨a, c, zs, e, s.below hb, u, hv, hl⟩
theorem NumAt.of {w : World} {a : Option Addr} {c : Nat} {zs : List Int} (s : Sl .u32 w a c zs) (u : U32 zs) (hl : zs.length ≤ 17592186044415) : NumAt w (.slice a zs.length c) (val zs) := ⟨a, c, zs, rfl, s, u, rfl, hl⟩
theorem NatRes.num {B : Nat} {w : World} {v : Value} {n k : Nat} (h : NatRes B w v n) (m : Lim k n) (hk : k ≤ 17592186044415) : NumAt w v n := by
  obtain ⟨a, c, zs, e, s, cz, u, hv⟩ := h.sl
  exact ⟨a, c, zs, e, s, u, hv, Nat.le_trans ((Lim.eq m hv).len cz u) hk⟩
theorem NatRes.below {B : Nat} {w w' : World} {v : Value} {n : Nat} (h : NatRes B w v n) (hb : Below w.heap.size w w') : NatRes B w' v n := by
  obtain ⟨z, h1, h2⟩ := h
  exact ⟨z, h1.keep hb, h2⟩

section
variable {v v' v'' : Value} {n m k : Nat} {W : World}
theorem mul_v (h : NumAt W v n) (h' : NumAt W v' m) : Calls Try.prog 14 #[v, v'] W (NatPost (n * m) W) := by
  obtain ⟨a, c, zs, rfl, s, u, rfl, hl⟩ := h
  obtain ⟨a', c', zs', rfl, s', u', rfl, hl'⟩ := h'
  exact Mul_c _ _ _ _ _ _ _ s s' u u' (by omega) (by omega)
theorem add_v (h : NumAt W v n) (h' : NumAt W v' m) : Calls Try.prog 19 #[v, v'] W (NatPost (n + m) W) := by
  obtain ⟨a, c, zs, rfl, s, u, rfl, hl⟩ := h
  obtain ⟨a', c', zs', rfl, s', u', rfl, hl'⟩ := h'
  exact Add_c _ _ _ _ _ _ _ s s' u u' (by omega) (by omega)
theorem sub_v (h : NumAt W v n) (h' : NumAt W v' m) : Calls Try.prog 20 #[v, v'] W (SubPost n m W) := by
  obtain ⟨a, c, zs, rfl, s, u, rfl, hl⟩ := h
  obtain ⟨a', c', zs', rfl, s', u', rfl, hl'⟩ := h'
  exact Sub_c _ _ _ _ _ _ _ s s' u u' (by omega) (by omega)
theorem cmp_v (h : NumAt W v n) (h' : NumAt W v' m) : Calls Try.prog 9 #[v, v'] W (CmpPost (cmpI n m) W) := by
  obtain ⟨a, c, zs, rfl, s, u, rfl, hl⟩ := h
  obtain ⟨a', c', zs', rfl, s', u', rfl, hl'⟩ := h'
  exact Cmp_c _ _ _ _ _ _ _ s s' u u'
theorem div_v (h : NumAt W v n) (h' : NumAt W v' m) : Calls Try.prog 15 #[v, v'] W (DivPost n m W) := by
  obtain ⟨a, c, zs, rfl, s, u, rfl, hl⟩ := h
  obtain ⟨a', c', zs', rfl, s', u', rfl, hl'⟩ := h'
  exact DivMod_c _ _ _ _ _ _ _ s s' u u' (by omega) (by omega)
theorem bits_v (h : NumAt W v n) : Calls Try.prog 18 #[v] W fun e w' => e = .returned (.int .i64 (bl n)) ∧ W = w' := by
  obtain ⟨a, c, zs, rfl, s, u, rfl, hl⟩ := h
  exact Bits_c _ _ _ _ s u (by omega)
theorem bit_v (h : NumAt W v n) (j : Nat) (hj : j ≤ 9223372036854775807) : Calls Try.prog 27 #[v, .int .i64 (j : Int)] W (BoolPost (decide (n / 2 ^ j % 2 = 1)) W) := by
  obtain ⟨a, c, zs, rfl, s, u, rfl, hl⟩ := h
  have := Bit_c _ _ _ (j : Int) _ s u ⟨by omega, by omega⟩
  rwa [bit_shr] at this
theorem bit0_v (h : NumAt W v n) : Calls Try.prog 27 #[v, .int .i64 0] W (BoolPost (decide (n % 2 = 1)) W) := by
  have := bit_v h 0 (by omega)
  rwa [Nat.pow_zero, Nat.div_one] at this
theorem shr1_v (h : NumAt W v n) : Calls Try.prog 22 #[v, .int .i64 1] W (NatPost (n / 2) W) := by
  obtain ⟨a, c, zs, rfl, s, u, rfl, hl⟩ := h
  have := Shr_k _ _ 1 _ _ s u (by omega) (by omega)
  rwa [Nat.pow_one] at this
end
theorem num_one (w : World) : NumAt (w.alloc (.cells #[.int .u32 1] 25)) (.slice (some ⟨w.heap.size, 0, none⟩) 1 1) 1 := by
  have hk : Blk (w.alloc (.cells #[.int .u32 1] 25)) w.heap.size .u32 25 [1] := cells_new .u32 w 25 [1] #[.int .u32 1] rfl _ rfl
  exact NumAt.of (hk.sl_full (by simp)) (.of_mem (by omega) (by simp)) (by simp)
theorem below_one (w : World) (o : Obj) : Below w.heap.size w (w.alloc o) := (Below.refl w.heap.size w).alloc (Nat.le_refl _) o

def ExpRel (A E m B S : Nat) (w : World) (v t : Value) (wr : World) : Prop := ∃ i : Nat, i ≤ B ∧ t = .int .i64 ((i : Int) - 1) ∧ NatRes S wr v (A ^ (E / 2 ^ i) % m) ∧ Below S w wr

end Go.Proofs.Ytnlmkikaaifcmaa
