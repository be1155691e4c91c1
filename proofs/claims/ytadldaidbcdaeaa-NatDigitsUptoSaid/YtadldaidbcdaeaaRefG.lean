/- signetref6.doubled, by its contract. -/
import Derived.Test.YtadldaidbcdaeaaRefF
import Derived.Test.YtadldaidbcdaeaaNumD
set_option linter.unusedVariables false
set_option linter.unusedSimpArgs false
namespace Go.Sg
theorem canon_of_ge {L : List Int} (u : U32 L) (h : 0 < L.length → R ^ (L.length - 1) ≤ val L) : Canon L := .of_last fun hp h0 => by
  have e := val_take_next L (L.length - 1)
  rw [List.take_of_length_le (by omega), lb, h0] at e
  have t := val_take_lt u (L.length - 1) (by omega)
  have := h hp
  simp at e
  omega
theorem canon_snoc {L : List Int} {x : Int} (h : x ≠ 0) : Canon (L ++ [x]) := .of_last fun _ => by
  rw [List.length_append, List.length_singleton, Nat.add_sub_cancel]
  have := nth_append_right L [x] 0
  rw [Nat.add_zero] at this
  rw [this]
  exact h
end Go.Sg
namespace Go.Proofs.Ytadldaidbcdaeaa
open Go.RowKit Go.Sg

/-- 1 where the bit is set. -/
def bitN (b : Bool) : Nat := if b then 1 else 0

set_option maxHeartbeats 2000000 in
theorem doubled_t (a : Option Addr) (cap : Nat) (xs : List Int) (w : World) (hx : Sl .u32 w a cap xs) (ux : U32 xs) (cx : Canon xs) (hl : xs.length ≤ 35184372088000) :
    Calls Try.prog 87 #[.slice a xs.length cap, .bool true] w (NatPost (2 * val xs + 1) w) := by
  go_enter Try.func87, Try.ntmps87
  go_wp2_with fail
  go_loopw [5, 6, 7] (fun c v t wr => ∃ (i cn : Nat) (L : List Int), t = .int .i64 (i : Int) ∧ c = .int .u32 (cn : Int) ∧ cn ≤ 1 ∧ New w.heap.size .u32 52 wr v L ∧ L.length = i ∧ i ≤ xs.length ∧ U32 L ∧
      val L + R ^ i * cn = 2 * val (xs.take i) + 1 ∧ Below w.heap.size w wr)
    (fun _ _ t _ => xs.length - (intOf t).toNat)
  case atStart => exact ⟨0, 1, [], rfl, rfl, by omega, .nil _ _ _ _, rfl, by omega, .nil (by omega), by simp [val], .refl _ _⟩
  case round =>
    obtain ⟨i, cn, L, rfl, rfl, hcn, hL, hLl, hi, uL, hval, hb⟩ := hrel
    have HL := Lib.hid hLl
    have HV := Lib.hid hval
    have hbs := hb.size
    clear hLl hval
    by_cases hgo : i < xs.length
    · obtain ⟨bx, ox, rfl, hcc⟩ := hx.cells (by omega)
      have hcx := (hb.cell (World.block_lt_of_cell? w _ (hcc i hgo))).trans (hcc i hgo)
      have hlt := World.block_lt_of_cell? w _ (hcc i hgo)
      have XC := Lib.hid (lb_cast ux i)
      have hxl := lb_lt ux i
      obtain ⟨x, hxe⟩ : ∃ x, x = lb xs i := ⟨_, rfl⟩
      rw [← hxe] at XC hxl
      rw [← XC.out] at hcx
      have HX := Lib.hid hxe
      have hx4 : x ≤ 4294967295 := by unfold R at hxl; omega
      obtain ⟨c2, hc2⟩ : ∃ c2, c2 = x / 2147483648 := ⟨_, rfl⟩
      obtain ⟨lo, hlo⟩ : ∃ lo, lo = x * 2 % 4294967296 := ⟨_, rfl⟩
      have hlo2 : (lo : Int) ≤ 4294967294 := by omega
      have hc21 : c2 ≤ 1 := by omega
      have hw : (x : Int) * 2 % 4294967296 = (lo : Int) := by omega
      have hw2 : IntKind.u32.wrap ((x : Int) * 2) = (lo : Int) := by rw [IntKind.wrap_u32]; exact hw
      have hq : (x : Int) / 2147483648 = (c2 : Int) := by omega
      have fin : Hid (val (L ++ [((lo + cn : Nat) : Int)]) + R ^ (i + 1) * c2 = 2 * val (xs.take (i + 1)) + 1) := Lib.hid (by
        have e : lo + R * c2 = 2 * x := by unfold R; omega
        have e2 : R ^ i * (lo + R * c2) = R ^ i * (2 * x) := by rw [e]
        rw [val_snoc, HL.out, val_take_next, Rpow_next, Int.toNat_natCast, ← HX.out]
        have := HV.out
        rw [Nat.mul_add, ← Nat.mul_assoc] at e2
        rw [Nat.mul_left_comm (R ^ i) 2 x] at e2
        rw [Nat.mul_add (R ^ i), Nat.mul_add 2]
        omega)
      clear hcc hxe hxl hc2 hlo
      have cone := cells_one .u32 wr 52 ((lo : Int) + (cn : Int)) _ rfl
      have HW := Lib.hid hw
      go_wp2_with (at_builtin; refine wpList_append_new _ rfl _ _ 30 rfl w.heap.size 52 .u32 4 Try.underlying30 info32 _ _ rfl (hL.alloc _) _ _ 1 _ rfl rfl cone (by simp only [HL.out, List.length_cons, List.length_nil]; omega) (by simp only [HL.out, List.length_cons, List.length_nil]; omega) (by simp; omega) ?_)
      intro v' w' hv' hg _
      have hb' : Below w.heap.size w w' := (hb.alloc (by omega) _).grown hg (by simp; omega) fun g hg => (hL.lt g hg).1
      have hcx' := (hb'.cell (p := ⟨bx, ox + i, none⟩) hlt).trans ((hb.cell (p := ⟨bx, ox + i, none⟩) hlt).symm.trans hcx)
      replace hv' : New w.heap.size .u32 52 w' v' (L ++ [((lo + cn : Nat) : Int)]) := by rw [Int.natCast_add]; exact hv'
      have hlen' : Hid ((L ++ [((lo + cn : Nat) : Int)]).length = i + 1) := Lib.hid (by rw [List.length_append, HL.out]; rfl)
      have uu : U32 (L ++ [((lo + cn : Nat) : Int)]) := uL.append (by omega) (.one (by omega) (by omega))
      clear hL hb hg hbs cone
      go_wp2_with fail
      go_roundw
      case rel => exact ⟨i + 1, c2, _, by go_num, rfl, hc21, hv', hlen'.out, by omega, uu, fin.out, hb'⟩
      case measure => simp [intOf]; omega
    · obtain rfl : i = xs.length := by omega
      have hge : Hid (2 * val xs ≤ val L + R ^ xs.length * cn) := Lib.hid (by rw [HV.out, List.take_length]; omega)
      rcases (show cn = 0 ∨ cn = 1 by omega) with rfl | rfl
      · have cL : Canon L := canon_of_ge uL fun hp => by
          rw [HL.out] at hp ⊢
          have h1 := cx.ge ux hp
          have h2 := hge.out
          omega
        go_wp2_with fail
        go_ret
        exact ⟨_, rfl, ⟨L, hL, cL, uL, by have := HV.out; rw [List.take_length] at this; omega⟩, hb⟩
      · go_wp2_with (at_builtin; refine wpList_append_new _ rfl _ _ 30 rfl w.heap.size 52 .u32 4 Try.underlying30 info32 _ _ rfl (hL.alloc _) _ _ 1 [1] rfl rfl (cells_one _ _ _ _ _ rfl) (by simp only [HL.out, List.length_cons, List.length_nil]; omega) (by simp only [HL.out, List.length_cons, List.length_nil]; omega) (by simp; omega) ?_)
        intro v' w' hv' hg _
        have hb' : Below w.heap.size w w' := (hb.alloc (by omega) _).grown hg (by simp; omega) fun g hg => (hL.lt g hg).1
        go_wp2_with fail
        go_ret
        exact ⟨_, rfl, ⟨L ++ [1], hv', canon_snoc (by omega), uL.append (by omega) (.one (by omega) (by omega)), by rw [val_snoc, HL.out]; have := HV.out; rw [List.take_length] at this; simpa using this⟩, hb'⟩

set_option maxHeartbeats 2000000 in
theorem doubled_f (a : Option Addr) (cap : Nat) (xs : List Int) (w : World) (hx : Sl .u32 w a cap xs) (ux : U32 xs) (cx : Canon xs) (hl : xs.length ≤ 35184372088000) :
    Calls Try.prog 87 #[.slice a xs.length cap, .bool false] w (NatPost (2 * val xs + 0) w) := by
  go_enter Try.func87, Try.ntmps87
  go_wp2_with fail
  go_loopw [5, 6, 7] (fun c v t wr => ∃ (i cn : Nat) (L : List Int), t = .int .i64 (i : Int) ∧ c = .int .u32 (cn : Int) ∧ cn ≤ 1 ∧ New w.heap.size .u32 52 wr v L ∧ L.length = i ∧ i ≤ xs.length ∧ U32 L ∧
      val L + R ^ i * cn = 2 * val (xs.take i) + 0 ∧ Below w.heap.size w wr)
    (fun _ _ t _ => xs.length - (intOf t).toNat)
  case atStart => exact ⟨0, 0, [], rfl, rfl, by omega, .nil _ _ _ _, rfl, by omega, .nil (by omega), by simp [val], .refl _ _⟩
  case round =>
    obtain ⟨i, cn, L, rfl, rfl, hcn, hL, hLl, hi, uL, hval, hb⟩ := hrel
    have HL := Lib.hid hLl
    have HV := Lib.hid hval
    have hbs := hb.size
    clear hLl hval
    by_cases hgo : i < xs.length
    · obtain ⟨bx, ox, rfl, hcc⟩ := hx.cells (by omega)
      have hcx := (hb.cell (World.block_lt_of_cell? w _ (hcc i hgo))).trans (hcc i hgo)
      have hlt := World.block_lt_of_cell? w _ (hcc i hgo)
      have XC := Lib.hid (lb_cast ux i)
      have hxl := lb_lt ux i
      obtain ⟨x, hxe⟩ : ∃ x, x = lb xs i := ⟨_, rfl⟩
      rw [← hxe] at XC hxl
      rw [← XC.out] at hcx
      have HX := Lib.hid hxe
      have hx4 : x ≤ 4294967295 := by unfold R at hxl; omega
      obtain ⟨c2, hc2⟩ : ∃ c2, c2 = x / 2147483648 := ⟨_, rfl⟩
      obtain ⟨lo, hlo⟩ : ∃ lo, lo = x * 2 % 4294967296 := ⟨_, rfl⟩
      have hlo2 : (lo : Int) ≤ 4294967294 := by omega
      have hc21 : c2 ≤ 1 := by omega
      have hw : (x : Int) * 2 % 4294967296 = (lo : Int) := by omega
      have hw2 : IntKind.u32.wrap ((x : Int) * 2) = (lo : Int) := by rw [IntKind.wrap_u32]; exact hw
      have hq : (x : Int) / 2147483648 = (c2 : Int) := by omega
      have fin : Hid (val (L ++ [((lo + cn : Nat) : Int)]) + R ^ (i + 1) * c2 = 2 * val (xs.take (i + 1)) + 0) := Lib.hid (by
        have e : lo + R * c2 = 2 * x := by unfold R; omega
        have e2 : R ^ i * (lo + R * c2) = R ^ i * (2 * x) := by rw [e]
        rw [val_snoc, HL.out, val_take_next, Rpow_next, Int.toNat_natCast, ← HX.out]
        have := HV.out
        rw [Nat.mul_add, ← Nat.mul_assoc] at e2
        rw [Nat.mul_left_comm (R ^ i) 2 x] at e2
        rw [Nat.mul_add (R ^ i), Nat.mul_add 2]
        omega)
      clear hcc hxe hxl hc2 hlo
      have cone := cells_one .u32 wr 52 ((lo : Int) + (cn : Int)) _ rfl
      have HW := Lib.hid hw
      go_wp2_with (at_builtin; refine wpList_append_new _ rfl _ _ 30 rfl w.heap.size 52 .u32 4 Try.underlying30 info32 _ _ rfl (hL.alloc _) _ _ 1 _ rfl rfl cone (by simp only [HL.out, List.length_cons, List.length_nil]; omega) (by simp only [HL.out, List.length_cons, List.length_nil]; omega) (by simp; omega) ?_)
      intro v' w' hv' hg _
      have hb' : Below w.heap.size w w' := (hb.alloc (by omega) _).grown hg (by simp; omega) fun g hg => (hL.lt g hg).1
      have hcx' := (hb'.cell (p := ⟨bx, ox + i, none⟩) hlt).trans ((hb.cell (p := ⟨bx, ox + i, none⟩) hlt).symm.trans hcx)
      replace hv' : New w.heap.size .u32 52 w' v' (L ++ [((lo + cn : Nat) : Int)]) := by rw [Int.natCast_add]; exact hv'
      have hlen' : Hid ((L ++ [((lo + cn : Nat) : Int)]).length = i + 1) := Lib.hid (by rw [List.length_append, HL.out]; rfl)
      have uu : U32 (L ++ [((lo + cn : Nat) : Int)]) := uL.append (by omega) (.one (by omega) (by omega))
      clear hL hb hg hbs cone
      go_wp2_with fail
      go_roundw
      case rel => exact ⟨i + 1, c2, _, by go_num, rfl, hc21, hv', hlen'.out, by omega, uu, fin.out, hb'⟩
      case measure => simp [intOf]; omega
    · obtain rfl : i = xs.length := by omega
      have hge : Hid (2 * val xs ≤ val L + R ^ xs.length * cn) := Lib.hid (by rw [HV.out, List.take_length]; omega)
      rcases (show cn = 0 ∨ cn = 1 by omega) with rfl | rfl
      · have cL : Canon L := canon_of_ge uL fun hp => by
          rw [HL.out] at hp ⊢
          have h1 := cx.ge ux hp
          have h2 := hge.out
          omega
        go_wp2_with fail
        go_ret
        exact ⟨_, rfl, ⟨L, hL, cL, uL, by have := HV.out; rw [List.take_length] at this; omega⟩, hb⟩
      · go_wp2_with (at_builtin; refine wpList_append_new _ rfl _ _ 30 rfl w.heap.size 52 .u32 4 Try.underlying30 info32 _ _ rfl (hL.alloc _) _ _ 1 [1] rfl rfl (cells_one _ _ _ _ _ rfl) (by simp only [HL.out, List.length_cons, List.length_nil]; omega) (by simp only [HL.out, List.length_cons, List.length_nil]; omega) (by simp; omega) ?_)
        intro v' w' hv' hg _
        have hb' : Below w.heap.size w w' := (hb.alloc (by omega) _).grown hg (by simp; omega) fun g hg => (hL.lt g hg).1
        go_wp2_with fail
        go_ret
        exact ⟨_, rfl, ⟨L ++ [1], hv', canon_snoc (by omega), uL.append (by omega) (.one (by omega) (by omega)), by rw [val_snoc, HL.out]; have := HV.out; rw [List.take_length] at this; simpa using this⟩, hb'⟩

theorem doubled_c (a : Option Addr) (cap : Nat) (xs : List Int) (bt : Bool) (w : World) (hx : Sl .u32 w a cap xs) (ux : U32 xs) (cx : Canon xs) (hl : xs.length ≤ 35184372088000) :
    Calls Try.prog 87 #[.slice a xs.length cap, .bool bt] w (NatPost (2 * val xs + bitN bt) w) := by
  cases bt
  · exact doubled_f a cap xs w hx ux cx hl
  · exact doubled_t a cap xs w hx ux cx hl
end Go.Proofs.Ytadldaidbcdaeaa
