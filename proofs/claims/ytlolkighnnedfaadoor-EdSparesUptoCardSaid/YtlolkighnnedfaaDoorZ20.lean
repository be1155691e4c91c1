import Derived.Test.YtlolkighnnedfaaDoorZ15
import Derived.Test.YtlolkighnnedfaaDoorZ18
import Derived.Test.YtlolkighnnedfaaDoorZ19
/- package ed: its numbers, and its reckoning modulo the prime, by contracts. -/
set_option linter.unusedVariables false
set_option linter.unusedSimpArgs false
namespace Go.Sg
open Go.RowKit
/-- A table of eight limbs. -/
structure TabAt (w : World) (g : Nat) (L : List Int) : Prop where
  len : L.length = 8
  rng : w.rangeAt g 0 (L.map (Value.int .u32))
theorem TabAt.lt {w : World} {g : Nat} {L : List Int} (h : TabAt w g L) : g < w.heap.size := by
  have h0 := h.rng 0 (.int .u32 (nth L 0)) (by rw [List.getElem?_map, List.getElem?_eq_getElem (by rw [h.len]; omega), nth_get _ _ (by rw [h.len]; omega)]; rfl)
  exact World.block_lt_of_cell? w _ h0
theorem TabAt.below {w w' : World} {g : Nat} {L : List Int} (h : TabAt w g L) (hb : Below w.heap.size w w') : TabAt w' g L := ⟨h.len, fun j v hv => by
  rw [World.cell?_of_block (w := w) (hb.block g h.lt)]
  exact h.rng j v hv⟩
def limbP : List Int := [0xffffffed, 0xffffffff, 0xffffffff, 0xffffffff, 0xffffffff, 0xffffffff, 0xffffffff, 0x7fffffff]
def limbL : List Int := [0x5cf5d3ed, 0x5812631a, 0xa2f79cd6, 0x14def9de, 0x00000000, 0x00000000, 0x00000000, 0x10000000]
def limbD : List Int := [0x135978a3, 0x75eb4dca, 0x4141d8ab, 0x00700a4d, 0x7779e898, 0x8cc74079, 0x2b6ffe73, 0x52036cee]
def limbI : List Int := [0xb5f15f3d, 0x3b11e4d8, 0x52d01b87, 0xd0bce7f9, 0xc2042858, 0xd4b2ff66, 0xb03e20f4, 0x547cdb7f]
def limbX : List Int := [0x8f25d51a, 0xc9562d60, 0x9525a7b2, 0x692cc760, 0xfdd6dc5c, 0xc0a4e231, 0xcd6e53fe, 0x216936d3]
def limbY : List Int := [0x66666658, 0x66666666, 0x66666666, 0x66666666, 0x66666666, 0x66666666, 0x66666666, 0x66666666]
theorem val_P : val limbP = eP := by decide +kernel
theorem val_L : val limbL = eL := by decide +kernel
theorem val_D : val limbD = eD.val := by decide +kernel
theorem val_I : val limbI = eI.val := by decide +kernel
theorem val_X : val limbX = eB.1.val := by decide +kernel
theorem val_Y : val limbY = eB.2.val := by decide +kernel
theorem limb_u (L : List Int) (h : L.all (fun x => decide (0 ≤ x ∧ x ≤ 4294967295)) = true) : U32 L := .of_mem (by omega) fun x hx => by
  have := List.all_eq_true.1 h x hx
  exact of_decide_eq_true this
/-- A row of eight limbs, the highest not 0. -/
structure Limb8 (L : List Int) (n : Nat) : Prop where
  len : L.length = 8
  u : U32 L
  can : Canon L
  val : Sg.val L = n
theorem limb8_of {L : List Int} {n : Nat} (h1 : L.length = 8) (h2 : L.all (fun x => decide (0 ≤ x ∧ x ≤ 4294967295)) = true) (h3 : nth L 7 ≠ 0) (h4 : val L = n) : Limb8 L n := ⟨h1, limb_u L h2, .of_last fun _ => by rw [h1]; exact h3, h4⟩
theorem lim8_P : Limb8 limbP eP := limb8_of rfl (by decide) (by decide) val_P
theorem lim8_L : Limb8 limbL eL := limb8_of rfl (by decide) (by decide) val_L
theorem lim8_D : Limb8 limbD eD.val := limb8_of rfl (by decide) (by decide) val_D
theorem lim8_I : Limb8 limbI eI.val := limb8_of rfl (by decide) (by decide) val_I
theorem lim8_X : Limb8 limbX eB.1.val := limb8_of rfl (by decide) (by decide) val_X
theorem lim8_Y : Limb8 limbY eB.2.val := limb8_of rfl (by decide) (by decide) val_Y
theorem all_array {P : Program} (w : World) (T E : TypeId) (N : Nat) (hu : P.underlying T = some (.array N E)) (hs : (P.info? E).map (·.size) = some 1) (b : Nat) (h3 : 0 < N) :
    (Instr.sliceAt T (.pointer (some ⟨b, 0, none⟩)) none none none).run P w = .ok (.slice (some ⟨b, 0, none⟩) N N) w := by
  cases hq : P.info? E with
  | none => simp [hq] at hs
  | some i =>
    have hz : i.size = 1 := by simpa [hq] using hs
    have eh : ¬ N = 0 := by omega
    simp [Instr.sliceAt, Instr.sureAddr, run_underlying hu, Instr.sliceBounds, sizeOf, typeInfo, hq, hz, eh, Addr.add_mid]
end Go.Sg
namespace Go.Proofs.YtlolkighnnedfaaDoor
open Go.RowKit Go.Sg
/-- A slice that lies in a row of an array's own, and reads as a number. -/
theorem CanAt.rw8 {w : World} {g : Nat} {E : TypeId} {L : List Int} {n : Nat} (h : Rw w g E (L.map (Value.int .u32))) (l : Limb8 L n) : CanAt w (.slice (some ⟨g, 0, none⟩) 8 8) n :=
  ⟨some ⟨g, 0, none⟩, 8, L, by rw [l.len], ⟨by rw [l.len]; omega, by omega, fun _ => ⟨g, 0, rfl, fun j hj => by
    rw [Nat.zero_add]
    exact h.cell j (by rw [List.getElem?_map, List.getElem?_eq_getElem hj, nth_get _ _ hj]; rfl)⟩⟩, l.can, l.u, l.val, by rw [l.len]; omega⟩
theorem sizeA8 : (Tryd.prog.info? 95).map (·.size) = some 8 := by kernel_rfl
theorem limbs_c {L : List Int} {n : Nat} (l : Limb8 L n) (w : World) : Calls Tryd.prog 97 #[.agg (L.map (Value.int .u32)).toArray] w (CanPost n w) := by
  have ha := fun W b => all_array (P := Tryd.prog) W 95 36 8 Tryd.underlying95 size32r b (by omega)
  go_enter Tryd.func97, Tryd.ntmps97
  go_wp2_with (refine wpList_box_agg rfl 95 _ rfl (L.map (Value.int .u32)) rfl ?_)
  intro w1 hk hb
  go_wp2_with fail
  go_ret
  exact ⟨_, rfl, CanAt.rw8 hk l, hb⟩
theorem prime_c (w : World) (t : TabAt w 0 limbP) : Calls Tryd.prog 51 #[] w (CanPost eP w) := by
  have r := t.rng
  have lc := limbs_c lim8_P w
  go_enter Tryd.func51, Tryd.ntmps51
  go_wp2_with (refine wpList_load_mid rfl 95 _ rfl 0 0 rfl (limbP.map (Value.int .u32)) _ r Tryd.underlying95 rfl sizeA8 ?_)
  go_wp2_with fail
  refine lc.mono ?_; rintro e w1 ⟨v, rfl, hc, hb⟩
  go_wp2_with fail
  go_ret
  exact ⟨_, rfl, hc, hb⟩
end Go.Proofs.YtlolkighnnedfaaDoor
