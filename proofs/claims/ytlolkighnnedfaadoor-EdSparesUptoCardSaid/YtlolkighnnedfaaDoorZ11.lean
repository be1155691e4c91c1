import Derived.Test.YtlolkighnnedfaaDoorZ10
import Derived.Deep.LoopGhost
/- package modn: odd, even, by their contracts. -/
set_option linter.unusedVariables false
set_option linter.unusedSimpArgs false
namespace Go.Proofs.YtlolkighnnedfaaDoor
open Go.RowKit Go.Sg

/-- The greatest common divisor, and what makes it of a. -/
def EuPost (a m : Nat) (w : World) (e : Ending) (w' : World) : Prop := ∃ vg vx g x, e = .returned (.tuple #[vg, vx]) ∧ NumAt w' vg g ∧ NumAt w' vx x ∧ g = Nat.gcd a m ∧ Cg m (x * a) g ∧ x < m ∧ Below w.heap.size w w'

def EvRel (a m S : Nat) (w : World) (g : Nat) (vx vr vs vy : Value) (wr : World) : Prop :=
  ∃ r s x y, NumAt wr vr r ∧ NumAt wr vs s ∧ NumAt wr vx x ∧ NumAt wr vy y ∧ EvInv a m r s x y ∧ g = s ∧ Below S w wr

theorem num_none (w : World) (E : TypeId) : NumAt (w.alloc (.cells #[] E)) (.slice (some ⟨w.heap.size, 0, none⟩) 0 0) 0 :=
  ⟨some ⟨w.heap.size, 0, none⟩, 0, [], rfl, .nil _ _ _ _ (by omega), .nil (by omega), rfl, by simp⟩

theorem num_one' (w : World) (g : Nat) (hg : g = w.heap.size) : NumAt (w.alloc (.cells #[.int .u32 1] 36)) (.slice (some ⟨g, 0, none⟩) 1 1) 1 := by
  subst hg
  exact num_one w
theorem num_none' (w : World) (E : TypeId) (g : Nat) (hg : g = w.heap.size) : NumAt (w.alloc (.cells #[] E)) (.slice (some ⟨g, 0, none⟩) 0 0) 0 := by
  subst hg
  exact num_none w E

set_option maxHeartbeats 4000000 in
theorem even_c {va vm : Value} {a m : Nat} {w : World} (ha : NumAt w va a) (hm : NumAt w vm m) (mm : Lim 128 m) (h1 : 1 < m) (hlt : a < m) :
    Calls Tryd.prog 135 #[va, vm] w (EuPost a m w) := by
  have H1 := Lib.hid h1
  have st := EvInv.start h1 hlt
  have hb0 := below_one w (.cells #[] 36)
  have hb1 := below_one (w.alloc (.cells #[] 36)) (.cells #[.int .u32 1] 36)
  have n0 := (num_none w 36).below hb1
  have n1 := num_one' (w.alloc (.cells #[] 36)) (w.heap.size + 1) (by simp)
  have na := (ha.below hb0).below hb1
  have nm := (hm.below hb0).below hb1
  have hB := hb0.trans (hb1.mono hb0.size)
  clear h1 hlt hb0 hb1
  go_enter Tryd.func135, Tryd.ntmps135
  go_wp2_with fail
  go_loopg [5, 6, 7, 8] a (fun g vx vr vs vy wr => EvRel a m w.heap.size w g vx vr vs vy wr ∧ NumAt wr vm m)
  case atStart => exact ⟨⟨m, a, 0, 1, nm, na, n0, n1, st, rfl, hB⟩, nm⟩
  case round =>
    clear st hB n0 n1 na nm ha hm
    obtain ⟨⟨r, s, x, y, nr, ns, nx, ny, inv, hgs, hB⟩, nm⟩ := hrel
    have HG := Lib.hid hgs
    clear hgs
    have hbl := bits_v ns
    obtain ⟨k, hk⟩ : ∃ k, k = bl s := ⟨_, rfl⟩
    rw [← hk] at hbl
    have mr := mm.le inv.rm
    have ms := mm.of_lt inv.sm
    have mx := mm.of_lt inv.xm
    have my := mm.of_lt inv.ym
    by_cases h0 : s = 0
    · subst h0
      obtain rfl : k = 0 := hk
      obtain ⟨d1, d2⟩ := inv.done
      have D1 := Lib.hid d1
      have D2 := Lib.hid d2
      have D3 := Lib.hid inv.xm
      clear d1 d2 inv mr ms mx my
      go_wp2_with fail
      refine hbl.mono ?_; rintro e w' ⟨rfl, rfl⟩
      go_wp2_with fail
      go_ret2
      exact ⟨_, _, _, _, rfl, nr, nx, D1.out, D2.out, D3.out, hB⟩
    · have hk0 : (0 : Int) < (k : Int) := by have := bl_pos h0; omega
      have hd : decide ((0 : Int) < (k : Int)) = true := decide_eq_true hk0
      have G0 : Hid (0 < s) := Lib.hid (by omega)
      have inv2 := Lib.hid (inv.step G0.out)
      have XM := Lib.hid inv.xm
      clear hk inv h0
      go_wp2_with fail
      refine hbl.mono ?_; rintro e w' ⟨rfl, rfl⟩
      clear hbl
      go_wp2_with fail
      refine (div_v nr ns).mono ?_; rintro e w2 ⟨_, h2, hb⟩
      obtain ⟨vq, vt, rfl, rq, rt, _⟩ := h2 G0.out
      have nq := rq.num (mr.le (Nat.div_le_self _ _)) (by omega)
      have nt := rt.num (mr.le (Nat.mod_le _ _)) (by omega)
      replace ns := ns.below hb
      replace nx := nx.below hb
      replace ny := ny.below hb
      replace nm := nm.below hb
      replace hB := hB.trans (hb.mono hB.size)
      obtain ⟨q, hq⟩ : ∃ q, q = r / s := ⟨_, rfl⟩
      have mq : Lim 128 q := by rw [hq]; exact mr.le (Nat.div_le_self _ _)
      rw [← hq] at nq inv2
      obtain ⟨t, ht⟩ : ∃ t, t = r % s := ⟨_, rfl⟩
      rw [← ht] at nt inv2
      have TG : Hid (t < s) := Lib.hid (by rw [ht]; exact Nat.mod_lt _ G0.out)
      clear h2 hb rq rt hq ht nr
      go_wp2_with fail
      refine (mul_v nq ny).mono ?_; rintro e w3 ⟨v3, rfl, hn, hb⟩
      have n3 := hn.num (mq.mul my) (by omega)
      replace ns := ns.below hb
      replace nx := nx.below hb
      replace ny := ny.below hb
      replace nm := nm.below hb
      replace nt := nt.below hb
      replace hB := hB.trans (hb.mono hB.size)
      clear hn hb nq
      go_wp2_with fail
      refine (rest_v n3 nm (by have := H1.out; omega)).mono ?_; rintro e w4 ⟨v4, rfl, hn, hb⟩
      have l4 := Nat.mod_lt (q * y) (show 0 < m by have := H1.out; omega)
      have n4 := hn.num (mm.of_lt l4) (by omega)
      replace ns := ns.below hb
      replace nx := nx.below hb
      replace ny := ny.below hb
      replace nm := nm.below hb
      replace nt := nt.below hb
      replace hB := hB.trans (hb.mono hB.size)
      clear hn hb n3
      go_wp2_with fail
      refine (minus_v nx n4 nm (Nat.le_of_lt l4)).mono ?_; rintro e w5 ⟨v5, rfl, hn, hb⟩
      have n5 := hn.num (mm.of_lt (subM_lt XM.out l4)) (by omega)
      replace ns := ns.below hb
      replace ny := ny.below hb
      replace nm := nm.below hb
      replace nt := nt.below hb
      replace hB := hB.trans (hb.mono hB.size)
      clear hn hb n4 l4 nx
      go_wp2_with fail
      go_roundg t
      case measure => (have := HG.out; have := TG.out; omega)
      case rel => exact ⟨⟨_, _, _, _, ns, nt, ny, n5, inv2.out, rfl, hB⟩, nm⟩

def OdRel (a m S : Nat) (w : World) (u v p q : Nat) (vu vv vp vq : Value) (wr : World) : Prop :=
  NumAt wr vu u ∧ NumAt wr vv v ∧ NumAt wr vp p ∧ NumAt wr vq q ∧ OdInv a m u v p q ∧ Below S w wr

set_option maxHeartbeats 8000000 in
theorem odd_c {va vm : Value} {a m : Nat} {w : World} (ha : NumAt w va a) (hm : NumAt w vm m) (mm : Lim 128 m) (h1 : 1 < m) (ho : m % 2 = 1) (hlt : a < m) :
    Calls Tryd.prog 134 #[va, vm] w (EuPost a m w) := by
  have HO := Lib.hid ho
  have st := OdInv.start h1 ho hlt
  have hb0 := below_one w (.cells #[.int .u32 1] 36)
  have hb1 := below_one (w.alloc (.cells #[.int .u32 1] 36)) (.cells #[] 36)
  have n1 := (num_one w).below hb1
  have n0 := num_none' (w.alloc (.cells #[.int .u32 1] 36)) 36 (w.heap.size + 1) (by simp)
  have na := (ha.below hb0).below hb1
  have nm := (hm.below hb0).below hb1
  have hB := hb0.trans (hb1.mono hb0.size)
  clear h1 hlt hb0 hb1 ho
  go_enter Tryd.func134, Tryd.ntmps134
  go_wp2_with fail
  go_loopg [6, 7, 8, 9] (a + m) (fun g vu vv vp vq wr => (∃ u v p q, g = u + v ∧ OdRel a m w.heap.size w u v p q vu vv vp vq wr) ∧ NumAt wr vm m)
  case atStart => exact ⟨⟨a, m, 1, 0, rfl, na, nm, n1, n0, st, hB⟩, nm⟩
  case round =>
    clear st hB n0 n1 na nm ha hm
    obtain ⟨⟨u, v, p, q, hgs, nu, nv, np, nq, inv, hB⟩, nm⟩ := hrel
    have HG := Lib.hid hgs
    clear hgs
    obtain ⟨wy, hwy⟩ : ∃ x : World, x = wr := ⟨_, rfl⟩
    subst hwy
    have hbl := bits_v nu
    obtain ⟨k, hk⟩ : ∃ k, k = bl u := ⟨_, rfl⟩
    rw [← hk] at hbl
    by_cases h0 : u = 0
    · subst h0
      obtain rfl : k = 0 := hk
      obtain ⟨d1, d2⟩ := inv.done
      have D1 := Lib.hid d1
      have D2 := Lib.hid d2
      have D3 := Lib.hid inv.qm
      clear d1 d2 inv
      go_wp2_with fail
      refine hbl.mono ?_; rintro e w' ⟨rfl, rfl⟩
      go_wp2_with fail
      go_ret2
      exact ⟨_, _, _, _, rfl, nv, nq, D1.out, D2.out, D3.out, hB⟩
    · have hk0 : (0 : Int) < (k : Int) := by have := bl_pos h0; omega
      have hd : decide ((0 : Int) < (k : Int)) = true := decide_eq_true hk0
      have hdn : decide (0 < k) = true := decide_eq_true (by omega)
      have U0 : Hid (0 < u) := Lib.hid (by omega)
      have INV := Lib.hid inv
      clear hk inv h0
      go_wp2_with fail
      refine hbl.mono ?_; rintro e w' ⟨rfl, rfl⟩
      clear hbl
      go_wp2_with fail
      go_loopg [6, 8] u (fun g vu vp wr => (∃ u' p', g = u' ∧ 0 < u' ∧ u' ≤ u ∧ OdRel a m w.heap.size w u' v p' q vu u7 vp u9 wr) ∧ NumAt wr vm m)
      case atStart => exact ⟨⟨u, p, rfl, U0.out, Nat.le_refl _, nu, nv, np, nq, INV.out, hB⟩, nm⟩
      case round =>
        clear nu nv np nq hB nm
        obtain ⟨⟨u2, p2, hgs2, hu2, hul, nu, nv, np, nq, inv, hB⟩, nm⟩ := hrel
        have HG2 := Lib.hid hgs2
        clear hgs2
        have bc := bit0_v nu
        by_cases hev : u2 % 2 = 1
        · rw [show decide (u2 % 2 = 1) = true from decide_eq_true hev] at bc
          have HEV := Lib.hid hev
          have INV2 := Lib.hid inv
          clear hev inv INV
          go_wp2_with fail
          refine bc.mono ?_; rintro e w3 ⟨rfl, hdr⟩
          replace nu := nu.below hdr.b
          replace nv := nv.below hdr.b
          replace np := np.below hdr.b
          replace nq := nq.below hdr.b
          replace nm := nm.below hdr.b
          replace hB := hB.trans (hdr.b.mono hB.size)
          clear bc hdr
          go_wp2_with fail
          go_loopg [7, 9] v (fun g vv vq wr => (∃ v' q', g = v' ∧ v' ≤ v ∧ OdRel a m w.heap.size w u2 v' p2 q' u6 vv u8 vq wr) ∧ NumAt wr vm m)
          case atStart => exact ⟨⟨v, q, rfl, Nat.le_refl _, nu, nv, np, nq, INV2.out, hB⟩, nm⟩
          case round =>
            clear nu nv np nq hB nm INV2
            obtain ⟨⟨v3, q3, hgs3, hvl, nu, nv, np, nq, inv, hB⟩, nm⟩ := hrel
            have HG3 := Lib.hid hgs3
            clear hgs3
            have bc := bit0_v nv
            have V0 : Hid (0 < v3) := Lib.hid inv.v0
            by_cases hev : v3 % 2 = 1
            · rw [show decide (v3 % 2 = 1) = true from decide_eq_true hev] at bc
              have HEV2 := Lib.hid hev
              have INV3 := Lib.hid inv
              have mu := mm.le inv.um
              have mv := mm.le inv.vm
              have mp := mm.of_lt inv.pm
              have mq := mm.of_lt inv.qm
              clear hev inv
              go_wp2_with fail
              refine bc.mono ?_; rintro e w4 ⟨rfl, hdr⟩
              replace nu := nu.below hdr.b
              replace nv := nv.below hdr.b
              replace np := np.below hdr.b
              replace nq := nq.below hdr.b
              replace nm := nm.below hdr.b
              replace hB := hB.trans (hdr.b.mono hB.size)
              clear bc hdr
              have cc := cmp_v nu nv
              by_cases hle : v3 ≤ u2
              · have hci : 0 ≤ cmpI u2 v3 := by unfold cmpI; rw [if_neg (by omega)]; split <;> omega
                obtain ⟨c, hc⟩ : ∃ c, c = cmpI u2 v3 := ⟨_, rfl⟩
                rw [← hc] at cc hci
                have hdc : decide ((0 : Int) ≤ c) = true := decide_eq_true hci
                have HLE := Lib.hid hle
                have INV4 := Lib.hid (INV3.out.subU HEV.out HEV2.out hle)
                clear hc hle
                go_wp2_with fail
                refine cc.mono ?_; rintro e w5 ⟨rfl, hdr⟩
                replace nu := nu.below hdr.b
                replace nv := nv.below hdr.b
                replace np := np.below hdr.b
                replace nq := nq.below hdr.b
                replace nm := nm.below hdr.b
                replace hB := hB.trans (hdr.b.mono hB.size)
                clear cc hdr
                go_wp2_with fail
                refine (sub_v nu nv).mono ?_; rintro e w6 hp
                obtain ⟨v6, rfl, hr⟩ := hp.1 HLE.out
                have hb := hp.2.2
                have n6 := hr.num (mu.le (Nat.sub_le _ _)) (by omega)
                replace nv := nv.below hb
                replace np := np.below hb
                replace nq := nq.below hb
                replace nm := nm.below hb
                replace hB := hB.trans (hb.mono hB.size)
                clear hp hr hb nu
                go_wp2_with fail
                refine (minus_v np nq nm (Nat.le_of_lt INV3.out.qm)).mono ?_; rintro e w7 ⟨v7, rfl, hn, hb⟩
                have n7 := hn.num (mm.of_lt INV4.out.pm) (by omega)
                replace n6 := n6.below hb
                replace nv := nv.below hb
                replace nq := nq.below hb
                replace nm := nm.below hb
                replace hB := hB.trans (hb.mono hB.size)
                clear hn hb np
                go_wp2_with fail
                go_roundg (u2 - v3 + v3)
                case measure => (have := HG.out; have := V0.out; have := HLE.out; omega)
                case rel => exact ⟨⟨_, _, _, _, rfl, n6, nv, n7, nq, INV4.out, hB⟩, nm⟩
              · have hci : cmpI u2 v3 = -1 := cmpI_lt (by omega)
                rw [hci] at cc
                have HLT : Hid (u2 < v3) := Lib.hid (by omega)
                have INV4 := Lib.hid (INV3.out.subV HEV.out HEV2.out HLT.out)
                clear hci hle
                go_wp2_with fail
                refine cc.mono ?_; rintro e w5 ⟨rfl, hdr⟩
                replace nu := nu.below hdr.b
                replace nv := nv.below hdr.b
                replace np := np.below hdr.b
                replace nq := nq.below hdr.b
                replace nm := nm.below hdr.b
                replace hB := hB.trans (hdr.b.mono hB.size)
                clear cc hdr
                go_wp2_with fail
                refine (sub_v nv nu).mono ?_; rintro e w6 hp
                obtain ⟨v6, rfl, hr⟩ := hp.1 (Nat.le_of_lt HLT.out)
                have hb := hp.2.2
                have n6 := hr.num (mv.le (Nat.sub_le _ _)) (by omega)
                replace nu := nu.below hb
                replace np := np.below hb
                replace nq := nq.below hb
                replace nm := nm.below hb
                replace hB := hB.trans (hb.mono hB.size)
                clear hp hr hb nv
                go_wp2_with fail
                refine (minus_v nq np nm (Nat.le_of_lt INV3.out.pm)).mono ?_; rintro e w7 ⟨v7, rfl, hn, hb⟩
                have n7 := hn.num (mm.of_lt INV4.out.qm) (by omega)
                replace n6 := n6.below hb
                replace nu := nu.below hb
                replace np := np.below hb
                replace nm := nm.below hb
                replace hB := hB.trans (hb.mono hB.size)
                clear hn hb nq
                go_wp2_with fail
                go_roundg (u2 + (v3 - u2))
                case measure => (have := HG.out; have := V0.out; have := HLT.out; omega)
                case rel => exact ⟨⟨_, _, _, _, rfl, nu, n6, np, n7, INV4.out, hB⟩, nm⟩
            · rw [show decide (v3 % 2 = 1) = false from decide_eq_false hev] at bc
              have INV3 := Lib.hid (inv.halfV HO.out (by omega))
              have mv := mm.le inv.vm
              have mq := mm.of_lt inv.qm
              have V2 : Hid (v3 / 2 < v3) := Lib.hid (by have := inv.v0; omega)
              clear hev inv
              go_wp2_with fail
              refine bc.mono ?_; rintro e w4 ⟨rfl, hdr⟩
              replace nu := nu.below hdr.b
              replace nv := nv.below hdr.b
              replace np := np.below hdr.b
              replace nq := nq.below hdr.b
              replace nm := nm.below hdr.b
              replace hB := hB.trans (hdr.b.mono hB.size)
              clear bc hdr
              go_wp2_with fail
              refine (shr1_v nv).mono ?_; rintro e w5 ⟨v5, rfl, hn, hb⟩
              replace nu := nu.below hb
              replace np := np.below hb
              replace nq := nq.below hb
              replace nm := nm.below hb
              have n5 := hn.num (mv.le (Nat.div_le_self _ _)) (by omega)
              replace hB := hB.trans (hb.mono hB.size)
              clear nv hn hb
              go_wp2_with fail
              refine (half_v nq nm mq mm).mono ?_; rintro e w6 ⟨v6, rfl, hn, hb⟩
              replace nu := nu.below hb
              replace n5 := n5.below hb
              replace np := np.below hb
              replace nm := nm.below hb
              have n6 := hn.num (mm.of_lt INV3.out.qm) (by omega)
              replace hB := hB.trans (hb.mono hB.size)
              clear nq hn hb
              go_wp2_with fail
              go_roundg (v3 / 2)
              case measure => (have := HG3.out; have := V2.out; omega)
              case rel => exact ⟨⟨_, _, rfl, (by have := V2.out; omega), nu, n5, np, n6, INV3.out, hB⟩, nm⟩
        · rw [show decide (u2 % 2 = 1) = false from decide_eq_false hev] at bc
          have INV2 := Lib.hid (inv.halfU HO.out (by omega))
          have mu := mm.le inv.um
          have mp := mm.of_lt inv.pm
          have U2 : Hid (0 < u2 / 2 ∧ u2 / 2 < u2) := Lib.hid (by omega)
          clear hev inv
          go_wp2_with fail
          refine bc.mono ?_; rintro e w3 ⟨rfl, hdr⟩
          replace nu := nu.below hdr.b
          replace nv := nv.below hdr.b
          replace np := np.below hdr.b
          replace nq := nq.below hdr.b
          replace nm := nm.below hdr.b
          replace hB := hB.trans (hdr.b.mono hB.size)
          clear bc hdr
          go_wp2_with fail
          refine (shr1_v nu).mono ?_; rintro e w4 ⟨v4, rfl, hn, hb⟩
          replace nv := nv.below hb
          replace np := np.below hb
          replace nq := nq.below hb
          replace nm := nm.below hb
          have n4 := hn.num (mu.le (Nat.div_le_self _ _)) (by omega)
          replace hB := hB.trans (hb.mono hB.size)
          clear nu hn hb
          go_wp2_with fail
          refine (half_v np nm mp mm).mono ?_; rintro e w5 ⟨v5, rfl, hn, hb⟩
          replace nv := nv.below hb
          replace n4 := n4.below hb
          replace nq := nq.below hb
          replace nm := nm.below hb
          have n5 := hn.num (mm.of_lt INV2.out.pm) (by omega)
          replace hB := hB.trans (hb.mono hB.size)
          clear np hn hb
          go_wp2_with fail
          go_roundg (u2 / 2)
          case measure => (have := HG2.out; have := U2.out; omega)
          case rel => exact ⟨⟨_, _, rfl, U2.out.1, (by have := U2.out; omega), n4, nv, n5, nq, INV2.out, hB⟩, nm⟩
end Go.Proofs.YtlolkighnnedfaaDoor
