import Derived.Test.YtlolkighnnedfaaDoorZ32
import Derived.Test.YtlolkighnnedfaaDoorZ14
import Derived.Test.YtlolkighnnedfaaDoorZ28
import Derived.Deep.DeepCutAuto
import Derived.Deep.CutBlock
/- package ed: Verify by its contract. (Printed by gen_edpj.py.) -/
set_option linter.unusedVariables false
set_option linter.unusedSimpArgs false
namespace Go.Proofs.YtlolkighnnedfaaDoor
open Go.RowKit Go.Sg
theorem rows13 (w : World) (E : TypeId) (ps : List Part) (cs : Array Value) (hcs : cs = (ps.map Part.val).toArray) (hs : ∀ p ∈ ps, Sl .u8 w p.a p.cap p.xs) (hu : ∀ p ∈ ps, U8 p.xs) :
    Rows_ (w.alloc (.cells cs E)) (some ⟨w.heap.size, 0, none⟩) ps := by
  subst hcs
  refine ⟨fun _ => ⟨_, 0, rfl, fun j hj => ?_⟩, fun p hp => (hs p hp).below ((Below.refl _ _).alloc (Nat.le_refl _) _), hu⟩
  rw [Nat.zero_add, cell_of_row (w.alloc (.cells (ps.map Part.val).toArray E)) w.heap.size j _ E (0, 0) (Go.heap_alloc_new w _)]
  simp [hj]
theorem Sum3n_c (h : Int) (a0 a a' : Option Addr) (c0 cap cap' : Nat) (t d s : List Int) (w : World) (hx0 : Sl .u8 w a0 c0 t) (hx : Sl .u8 w a cap d) (hy : Sl .u8 w a' cap' s) (u0 : U8 t) (ux : U8 d) (uy : U8 s) (hlen : t.length + d.length + s.length < 2305843009213693952) (ht : ShaTabs w) :
    Calls Tryd.prog 64 #[.int .i64 h, .slice (some ⟨w.heap.size, 0, none⟩) 3 3] (w.alloc (.cells #[.slice a0 t.length c0, .slice a d.length cap, .slice a' s.length cap'] 22)) (NBytesPost (sha h (t ++ d ++ s)) w) := by
  have hb := (Below.refl w.heap.size w).alloc (Nat.le_refl _) (.cells #[.slice a0 t.length c0, .slice a d.length cap, .slice a' s.length cap'] 22)
  have e : flat [⟨a0, c0, t⟩, ⟨a, cap, d⟩, ⟨a', cap', s⟩] = t ++ d ++ s := by simp [flat]
  have c := ShaSum_c h (some ⟨w.heap.size, 0, none⟩) 3 [⟨a0, c0, t⟩, ⟨a, cap, d⟩, ⟨a', cap', s⟩] _ (rows13 w 22 [⟨a0, c0, t⟩, ⟨a, cap, d⟩, ⟨a', cap', s⟩] _ rfl (by simp; exact ⟨hx0, hx, hy⟩) (by simp; exact ⟨u0, ux, uy⟩)) (by simp) (by rw [e, List.length_append, List.length_append]; exact hlen) (ht.below hb)
  rw [e] at c
  exact c.mono fun e w' p => by
    obtain ⟨v, rfl, hv, hb'⟩ := p
    exact ⟨v, rfl, hv.mono hb.size, hb.trans (hb'.mono hb.size)⟩
/-- What Verify says. -/
def edCode (pub msg sig : List Int) : Int := match decB pub with
  | none => 90
  | some A => if verE A (chal (sig.take 32) pub msg) sig then 0 else 91
def EdVPost (c : Int) (w : World) (e : Ending) (w' : World) : Prop := e = .returned (.int .i64 c) ∧ Below w.heap.size w w'
theorem neg_val (x : Fp) : 0 - x = -x := by grind
/-- A variable that holds a point. -/
def PtVar (w0 : World) (Q : Pt) (p : Value) (wx : World) : Prop := ∃ g vx vy, p = .pointer (some ⟨g, 0, none⟩) ∧ Rw wx g 29 [vx, vy, .bool false] ∧ CanAt wx vx Q.1.val ∧ CanAt wx vy Q.2.val ∧ w0.heap.size ≤ g ∧ Below w0.heap.size w0 wx
/-- The point that the signature's first half must be. -/
def rOf13 (A : Pt) (s k : Nat) : Pt := eAdd (eMul s eB) (eMul k (eNeg A))

set_option maxHeartbeats 4000000 in
set_option maxRecDepth 20000 in
theorem Verify_c {ap am as_ : Option Addr} {cp cm cs : Nat} {pub msg sig : List Int} {w : World} (hp : Sl .u8 w ap cp pub) (hm : Sl .u8 w am cm msg) (hs : Sl .u8 w as_ cs sig) (up : U8 pub) (um : U8 msg) (us : U8 sig) (lp : pub.length ≤ 17592186044415) (lm : msg.length ≤ 17592186044415) (ls : sig.length ≤ 17592186044415) (tP : TabAt w 0 limbP) (tD : TabAt w 3 limbD) (tI : TabAt w 4 limbI) (tL : TabAt w 2 limbL) (tB : BaseT w 1) (ht : ShaTabs w) :
    Calls Tryd.prog 24 #[.slice ap pub.length cp, .slice am msg.length cm, .slice as_ sig.length cs] w (EdVPost (edCode pub msg sig) w) := by
  obtain ⟨code, hcode⟩ : ∃ c, c = edCode pub msg sig := ⟨_, rfl⟩
  rw [← hcode]
  have HC := Lib.hid hcode
  clear hcode
  go_enter Tryd.func24, Tryd.ntmps24
  have hB := Below.refl w.heap.size w
  have dc := Decode_c hp up (by omega) tP tD tI
  cases hd : decB pub with
  | none =>
    rw [hd] at dc
    have HE : Hid (code = 90) := Lib.hid (by rw [HC.out]; unfold edCode; rw [hd])
    clear hd
    go_wp2_with fail
    refine dc.mono ?_; rintro e_ w1 ⟨rfl, hb⟩
    clear dc
    replace hB := hB.trans (hb.mono hB.size)
    clear hb
    unfold noPt
    go_wp2_with (refine wpList_alloc_agg rfl 29 rfl [(.slice none 0 0), (.slice none 0 0), (.bool false)] 3 (by kernel_rfl) ?_)
    intro w2 hk7 hb
    have hz_ := hB.size
    replace hB := hB.trans (hb.mono hB.size)
    clear hb
    obtain ⟨g7, hg_⟩ : ∃ g, g = w1.heap.size := ⟨_, rfl⟩
    rw [← hg_] at hk7 ⊢
    have HG7 : Hid (w.heap.size ≤ g7) := Lib.hid (by rw [hg_]; exact hz_)
    clear hg_ hz_
    go_wp2_with (refine wpList_store_agg rfl 29 _ _ rfl g7 29 [(.slice none 0 0), (.slice none 0 0), (.bool false)] [(.slice none 0 0), (.slice none 0 0), (.bool false)] rfl rfl hk7 size_pt (by intro v_ hv_; simp only [List.mem_cons, List.not_mem_nil, or_false] at hv_; rcases hv_ with rfl | rfl | rfl <;> rfl) rfl ?_)
    intro w3 hn hg
    replace hB := hB.grown hg hB.size (by intro k_ hk_; cases hk_; exact HG7.out)
    replace hk7 := hn
    clear hn hg
    go_wp2_with fail
    go_ret
    exact ⟨by rw [HE.out]; first | done | rfl, hB⟩
  | some A =>
    rw [hd] at dc
    have OA := Lib.hid (decB_on hd).2
    have HC1 : Hid (code = if verE A (chal (sig.take 32) pub msg) sig then 0 else 91) := Lib.hid (by rw [HC.out]; unfold edCode; rw [hd])
    clear hd
    go_wp2_with fail
    refine dc.mono ?_; rintro e_ w1 ⟨v18, rfl, hr, hb⟩
    obtain ⟨vAx, vAy, rfl, rAx, rAy, _⟩ := hr
    replace rAx := rAx.mono (Nat.zero_le _)
    replace rAy := rAy.mono (Nat.zero_le _)
    obtain ⟨aAx_, nAx_, pAx_, rfl⟩ := rAx.fp.sliced
    obtain ⟨aAy_, nAy_, pAy_, rfl⟩ := rAy.fp.sliced
    clear dc
    replace hB := hB.trans (hb.mono hB.size)
    clear hb
    go_wp2_with (refine wpList_alloc_agg rfl 29 rfl [(.slice none 0 0), (.slice none 0 0), (.bool false)] 3 (by kernel_rfl) ?_)
    intro w2 hk7 hb
    have hz_ := hB.size
    have off_rAx_7 := NatRes.off_old rAx
    have off_rAy_7 := NatRes.off_old rAy
    replace hB := hB.trans (hb.mono hB.size)
    replace rAx := rAx.below hb
    replace rAy := rAy.below hb
    clear hb
    obtain ⟨g7, hg_⟩ : ∃ g, g = w1.heap.size := ⟨_, rfl⟩
    rw [← hg_] at hk7 off_rAx_7 off_rAy_7 ⊢
    have HG7 : Hid (w.heap.size ≤ g7) := Lib.hid (by rw [hg_]; exact hz_)
    clear hg_ hz_
    go_wp2_with (refine wpList_store_agg rfl 29 _ _ rfl g7 29 [(.slice none 0 0), (.slice none 0 0), (.bool false)] [(.slice aAx_ nAx_ pAx_), (.slice aAy_ nAy_ pAy_), .bool false] rfl rfl hk7 size_pt (by intro v_ hv_; simp only [List.mem_cons, List.not_mem_nil, or_false] at hv_; rcases hv_ with rfl | rfl | rfl <;> first | rfl | exact rAx.fp.one_cell | exact rAy.fp.one_cell) rfl ?_)
    intro w3 hn hg
    replace hB := hB.grown hg hB.size (by intro k_ hk_; cases hk_; exact HG7.out)
    replace rAx := rAx.off off_rAx_7 hg
    replace rAy := rAy.off off_rAy_7 hg
    replace hk7 := hn
    clear hn hg
    by_cases h64 : sig.length = 64
    · skip
      have H64 := Lib.hid h64
      obtain ⟨adr, sdr, rdr⟩ := hs.from (P := Tryd.prog) (T := 22) (E := 5) Tryd.underlying22 size8 32 (by omega)
      have rto := fun W => run_to (P := Tryd.prog) W 22 5 Tryd.underlying22 size8 as_ sig.length cs 32 (by have := hs.le; omega) 32 rfl
      have std := hs.take 32
      rw [h64] at rdr rto ⊢
      rw [show ((32 : Nat) : Int) = 32 from rfl] at rdr
      rw [show (64 - 32 : Nat) = 32 from rfl] at rdr
      have hl1 : (sig.drop 32).length = 32 := by rw [List.length_drop, h64]
      have hl2 : (sig.take 32).length = 32 := by rw [List.length_take, h64]; rfl
      have HL1 := Lib.hid hl1
      have HL2 := Lib.hid hl2
      have ud : U8 (sig.drop 32) := us.drop (by omega) 32
      have ut : U8 (sig.take 32) := us.take (by omega) 32
      have nc := number_c adr (cs - 32) (sig.drop 32) w3 (sdr.below hB) ud (by rw [hl1]; omega) (by rw [hl1]; omega)
      rw [hl1] at nc
      obtain ⟨S, hS_⟩ : ∃ S, S = lnum (sig.drop 32) := ⟨_, rfl⟩
      rw [← hS_] at nc
      have slim : Lim 8 S := by
        have h1 := lnum_lt ud
        rw [hl1] at h1
        rw [hS_]
        exact ⟨Nat.lt_of_lt_of_le h1 (by decide +kernel)⟩
      have HS := Lib.hid hS_
      clear h64 hl1 hl2 hS_
      go_wp2_with fail
      refine nc.mono ?_; rintro e_ w4 ⟨v28, rfl, hn, hb⟩
      have c28 := hn.can slim (by omega)
      clear nc hn
      replace hB := hB.trans (hb.mono hB.size)
      replace rAx := rAx.below hb
      replace rAy := rAy.below hb
      replace hk7 := hk7.keep hb
      clear hb
      by_cases hsl : S < eL
      · skip
        have HX := Lib.hid (cmpI_lt hsl)
        have HSL := Lib.hid hsl
        clear hsl
        go_wp2_with fail
        refine (order_r w4 (tL.below hB)).mono ?_; rintro e_ w5 ⟨g30_, rfl, _, hkq_, hb⟩
        have c30 := CanAt.rw8 hkq_ lim8_L
        replace hB := hB.trans (hb.mono hB.size)
        replace rAx := rAx.below hb
        replace rAy := rAy.below hb
        replace hk7 := hk7.keep hb
        replace c28 := c28.below hb
        clear hb hkq_
        have h_ := cmp_v c28.num c30.num
        rw [HX.out] at h_
        go_wp2_with fail
        refine (h_).mono ?_; rintro e_ w6 ⟨rfl, hd_⟩
        have hb := hd_.b
        replace hB := hB.trans (hb.mono hB.size)
        replace rAx := rAx.below hb
        replace rAy := rAy.below hb
        replace hk7 := hk7.keep hb
        replace c28 := c28.below hb
        replace c30 := c30.below hb
        clear hb hd_ h_
        clear c30
        have sc := Sum3n_c 3 as_ ap am cs cp cm (sig.take 32) pub msg w6 (std.below hB) (hp.below hB) (hm.below hB) ut up um (by rw [HL2.out]; omega) (ht.below hB)
        rw [HL2.out] at sc
        obtain ⟨D, hD⟩ : ∃ D, D = sha 3 (sig.take 32 ++ pub ++ msg) := ⟨_, rfl⟩
        rw [← hD] at sc
        have lD : Hid (D.length = 64) := Lib.hid (by rw [hD, sha_len]; rfl)
        have uD : U8 D := by rw [hD]; exact sha_u8 _ _
        have HD := Lib.hid hD
        clear hD
        go_wp2_with fail
        refine sc.mono ?_; rintro e_ w7 ⟨v39, rfl, hn, hb⟩
        obtain ⟨a39, p39, rfl, s39⟩ := hn.sl
        clear sc hn
        replace hB := hB.trans (hb.mono hB.size)
        replace rAx := rAx.below hb
        replace rAy := rAy.below hb
        replace hk7 := hk7.keep hb
        replace c28 := c28.below hb
        clear hb
        have nc := number_c a39 p39 D w7 s39 uD (by rw [lD.out]; omega) (by rw [lD.out]; omega)
        rw [lD.out] at nc ⊢
        have dlim : Lim 16 (lnum D) := by
          have h1 := lnum_lt uD
          rw [lD.out] at h1
          exact ⟨Nat.lt_of_lt_of_le h1 (by decide +kernel)⟩
        go_wp2_with fail
        refine nc.mono ?_; rintro e_ w8 ⟨v40, rfl, hn, hb⟩
        have c40 := hn.can dlim (by omega)
        clear nc hn s39
        replace hB := hB.trans (hb.mono hB.size)
        replace rAx := rAx.below hb
        replace rAy := rAy.below hb
        replace hk7 := hk7.keep hb
        replace c28 := c28.below hb
        clear hb
        go_wp2_with fail
        refine (order_r w8 (tL.below hB)).mono ?_; rintro e_ w9 ⟨g41_, rfl, _, hkq_, hb⟩
        have c41 := CanAt.rw8 hkq_ lim8_L
        replace hB := hB.trans (hb.mono hB.size)
        replace rAx := rAx.below hb
        replace rAy := rAy.below hb
        replace hk7 := hk7.keep hb
        replace c28 := c28.below hb
        replace c40 := c40.below hb
        clear hb hkq_
        go_wp2_with fail
        refine (div_ok c40.num c41.num eL_pos).mono ?_; rintro e_ w10 ⟨v42q, v42r, rfl, _, c42, hb⟩
        replace hB := hB.trans (hb.mono hB.size)
        replace rAx := rAx.below hb
        replace rAy := rAy.below hb
        replace hk7 := hk7.keep hb
        replace c28 := c28.below hb
        replace c40 := c40.below hb
        replace c41 := c41.below hb
        clear hb
        obtain ⟨K, hK_⟩ : ∃ K, K = lnum D % eL := ⟨_, rfl⟩
        rw [← hK_] at c42
        have HK := Lib.hid (show K = chal (sig.take 32) pub msg by rw [hK_, HD.out]; rfl)
        clear hK_ dlim
        clear c40
        clear c41
        have hR := Below.refl w10.heap.size w10
        go_upto_region 10 with fail
        go_cut [13] (fun p wx => PtVar w10 (eNeg A) p wx)
        case first =>
          go_wp2_with fail
          refine wp_region_held_drew (S := fun W_ => Rw W_ g7 29 [(.slice aAx_ nAx_ pAx_), (.slice aAy_ nAy_ pAy_), .bool false]) (by kernel_rfl) (hk7) (fun hS => ?_)
          have hb := below_drewN (Below.refl w10.heap.size w10) 1
          obtain ⟨w11, hw_⟩ : ∃ x, x = World.drew w10 := ⟨_, rfl⟩
          rw [show World.drewN w10 1 = w11 from hw_.symm] at hb
          rw [← hw_] at hS ⊢
          clear hw_
          replace hB := hB.trans (hb.mono hB.size)
          replace rAx := rAx.below hb
          replace rAy := rAy.below hb
          replace hk7 := hk7.keep hb
          replace c28 := c28.below hb
          replace c42 := c42.below hb
          replace hR := hR.trans (hb.mono hR.size)
          clear hb
          refine wpAnyH_take (i := 0) (v := ?_) rfl (by kernel_rfl) (by kernel_rfl) (by kernel_rfl) (fun _ _ _ h => h) (Or.inl ⟨by rfl, ?_⟩) hS ?_
          rotate_left
          · intro w _; go_simp; try with_reducible rfl
          simp only [List.getElem_toArray, List.getElem_cons_zero, List.getElem_cons_succ, Act.put, List.setIfInBounds_toArray, List.set_cons_zero, List.set_cons_succ]
          refine wpAnyH_take (i := 1) (v := ?_) rfl (by kernel_rfl) (by kernel_rfl) (by kernel_rfl) (fun _ _ _ h => h) (Or.inl ⟨by rfl, ?_⟩) hS ?_
          rotate_left
          · intro W_ hW_; have c_ := Rw.cell hW_ 0 rfl; go_simp; try with_reducible rfl
          simp only [List.getElem_toArray, List.getElem_cons_zero, List.getElem_cons_succ, Act.put, List.setIfInBounds_toArray, List.set_cons_zero, List.set_cons_succ]
          refine wpAnyH_take (i := 3) (v := ?_) rfl (by kernel_rfl) (by kernel_rfl) (by kernel_rfl) (fun _ _ _ h => h) (Or.inl ⟨by rfl, ?_⟩) hS ?_
          rotate_left
          · intro w _; go_simp; try with_reducible rfl
          simp only [List.getElem_toArray, List.getElem_cons_zero, List.getElem_cons_succ, Act.put, List.setIfInBounds_toArray, List.set_cons_zero, List.set_cons_succ]
          refine wpAnyH_take (i := 4) (v := ?_) rfl (by kernel_rfl) (by kernel_rfl) (by kernel_rfl) (fun _ _ _ h => h) (Or.inl ⟨by rfl, ?_⟩) hS ?_
          rotate_left
          · intro W_ hW_; have c_ := Rw.cell hW_ 1 rfl; go_simp; try with_reducible rfl
          simp only [List.getElem_toArray, List.getElem_cons_zero, List.getElem_cons_succ, Act.put, List.setIfInBounds_toArray, List.set_cons_zero, List.set_cons_succ]
          refine wpAnyH_ready (rs := [2, 6]) (by kernel_rfl) (by simp) ?_
          refine AllReadyH.cons rfl (fun K hK => ?_) (AllReadyH.cons rfl (fun K hK => ?_) AllReadyH.nil) <;> rw [if_pos (by rfl)] <;> simp only [List.getElem_toArray, List.getElem_cons_zero, List.getElem_cons_succ]
          · skip
            go_simp
            refine (sub_f (CanAt.nil0 w11).num rAx.fp.num (tP.below hB)).mono ?_; rintro e_ w12 ⟨v48, rfl, hn, hb⟩
            dsimp only
            have c48 := hn.fp
            have r48 := hn.mono (Nat.zero_le _)
            have off_r48_7 := NatRes.off_new hn hk7.lt
            replace hB := hB.trans (hb.mono hB.size)
            replace rAx := rAx.below hb
            replace rAy := rAy.below hb
            replace hk7 := hk7.keep hb
            replace c28 := c28.below hb
            replace c42 := c42.below hb
            replace hR := hR.trans (hb.mono hR.size)
            clear hb hn
            refine hK.out _ _ hk7 (fun hS => ?_)
            refine wpAnyH_ready (rs := [5, 6]) (by kernel_rfl) (by simp) ?_
            refine AllReadyH.cons rfl (fun K hK => ?_) (AllReadyH.cons rfl (fun K hK => ?_) AllReadyH.nil) <;> rw [if_pos (by rfl)] <;> simp only [List.getElem_toArray, List.getElem_cons_zero, List.getElem_cons_succ]
            · skip
              obtain ⟨a48_, n48_, p48_, rfl⟩ := c48.sliced
              go_simp
              refine hK.out _ _ hS (fun hS => ?_)
              refine wpAnyH_ready (rs := [6]) (by kernel_rfl) (by simp) ?_
              refine AllReadyH.cons rfl (fun K hK => ?_) AllReadyH.nil
              rw [if_pos (by rfl)]
              simp only [List.getElem_toArray, List.getElem_cons_zero, List.getElem_cons_succ]
              refine wp_alloc_agg 29 rfl [(.slice none 0 0), (.slice none 0 0), (.bool false)] 3 (by kernel_rfl) ?_
              intro w13 hk13 hb
              have hz_ := hB.size
              have hR0_ := hR.size
              have lt7_ := hk7.lt
              have off_rAx_13 := NatRes.off_old rAx
              have off_rAy_13 := NatRes.off_old rAy
              have off_r48_13 := NatRes.off_old r48
              replace hB := hB.trans (hb.mono hB.size)
              replace rAx := rAx.below hb
              replace rAy := rAy.below hb
              replace hk7 := hk7.keep hb
              replace c28 := c28.below hb
              replace c42 := c42.below hb
              replace hR := hR.trans (hb.mono hR.size)
              replace c48 := c48.below hb
              replace r48 := r48.below hb
              clear hb
              obtain ⟨g13, hg_⟩ : ∃ g, g = w12.heap.size := ⟨_, rfl⟩
              rw [← hg_] at hk13 off_rAx_13 off_rAy_13 off_r48_13 ⊢
              have HG13 : Hid (w.heap.size ≤ g13) := Lib.hid (by rw [hg_]; exact hz_)
              have NE7_13 : Hid (g7 ≠ g13) := Lib.hid (by rw [hg_]; exact Nat.ne_of_lt lt7_)
              have HR_ : Hid (w10.heap.size ≤ g13) := Lib.hid (by rw [hg_]; exact hR0_)
              clear hR0_
              clear hg_ hz_ lt7_
              refine hK.out _ _ hk7 (fun hS => ?_)
              refine wpAnyH_ready (rs := [7]) (by kernel_rfl) (by simp) ?_
              refine AllReadyH.cons rfl (fun K hK => ?_) AllReadyH.nil
              rw [if_pos (by rfl)]
              simp only [List.getElem_toArray, List.getElem_cons_zero, List.getElem_cons_succ]
              refine wp_store_agg 29 _ _ rfl g13 29 [(.slice none 0 0), (.slice none 0 0), (.bool false)] [(.slice a48_ n48_ p48_), (.slice aAy_ nAy_ pAy_), (.bool false)] rfl rfl hk13 size_pt (by intro v_ hv_; simp only [List.mem_cons, List.not_mem_nil, or_false] at hv_; rcases hv_ with rfl | rfl | rfl <;> first | rfl | exact c48.one_cell | exact rAy.fp.one_cell) rfl ?_
              intro w14 hn hg
              replace hB := hB.grown hg hB.size (by intro k_ hk_; cases hk_; exact HG13.out)
              replace rAx := rAx.off off_rAx_13 hg
              replace rAy := rAy.off off_rAy_13 hg
              replace hk7 := hk7.grown hg (fun e_ => NE7_13.out (Option.some.inj e_))
              clear c28
              clear c42
              replace hR := hR.grown hg hR.size (by intro k_ hk_; cases hk_; exact HR_.out)
              clear c48
              replace r48 := r48.off off_r48_13 hg
              replace hk13 := hn
              clear hn hg
              refine hK.out _ _ hk7 (fun hS => ?_)
              refine wpAnyH_done (by kernel_rfl) ?_ _
              clear hS
              go_wp2_with fail
              go_meet
              exact ⟨_, _, _, rfl, hk13, (by have h_ := r48.fp; rw [neg_val] at h_; exact h_), rAy.fp, HR_.out, hR⟩
            · skip
              refine wp_alloc_agg 29 rfl [(.slice none 0 0), (.slice none 0 0), (.bool false)] 3 (by kernel_rfl) ?_
              intro w13 hk13 hb
              have hz_ := hB.size
              have hR0_ := hR.size
              have lt7_ := hk7.lt
              have off_rAx_13 := NatRes.off_old rAx
              have off_rAy_13 := NatRes.off_old rAy
              have off_r48_13 := NatRes.off_old r48
              replace hB := hB.trans (hb.mono hB.size)
              replace rAx := rAx.below hb
              replace rAy := rAy.below hb
              replace hk7 := hk7.keep hb
              replace c28 := c28.below hb
              replace c42 := c42.below hb
              replace hR := hR.trans (hb.mono hR.size)
              replace c48 := c48.below hb
              replace r48 := r48.below hb
              clear hb
              obtain ⟨g13, hg_⟩ : ∃ g, g = w12.heap.size := ⟨_, rfl⟩
              rw [← hg_] at hk13 off_rAx_13 off_rAy_13 off_r48_13 ⊢
              have HG13 : Hid (w.heap.size ≤ g13) := Lib.hid (by rw [hg_]; exact hz_)
              have NE7_13 : Hid (g7 ≠ g13) := Lib.hid (by rw [hg_]; exact Nat.ne_of_lt lt7_)
              have HR_ : Hid (w10.heap.size ≤ g13) := Lib.hid (by rw [hg_]; exact hR0_)
              clear hR0_
              clear hg_ hz_ lt7_
              refine hK.out _ _ hk7 (fun hS => ?_)
              obtain ⟨a48_, n48_, p48_, rfl⟩ := c48.sliced
              refine wpAnyH_ready (rs := [5]) (by kernel_rfl) (by simp) ?_
              refine AllReadyH.cons rfl (fun K hK => ?_) AllReadyH.nil
              rw [if_pos (by rfl)]
              simp only [List.getElem_toArray, List.getElem_cons_zero, List.getElem_cons_succ]
              go_simp
              refine hK.out _ _ hS (fun hS => ?_)
              refine wpAnyH_ready (rs := [7]) (by kernel_rfl) (by simp) ?_
              refine AllReadyH.cons rfl (fun K hK => ?_) AllReadyH.nil
              rw [if_pos (by rfl)]
              simp only [List.getElem_toArray, List.getElem_cons_zero, List.getElem_cons_succ]
              refine wp_store_agg 29 _ _ rfl g13 29 [(.slice none 0 0), (.slice none 0 0), (.bool false)] [(.slice a48_ n48_ p48_), (.slice aAy_ nAy_ pAy_), (.bool false)] rfl rfl hk13 size_pt (by intro v_ hv_; simp only [List.mem_cons, List.not_mem_nil, or_false] at hv_; rcases hv_ with rfl | rfl | rfl <;> first | rfl | exact c48.one_cell | exact rAy.fp.one_cell) rfl ?_
              intro w14 hn hg
              replace hB := hB.grown hg hB.size (by intro k_ hk_; cases hk_; exact HG13.out)
              replace rAx := rAx.off off_rAx_13 hg
              replace rAy := rAy.off off_rAy_13 hg
              replace hk7 := hk7.grown hg (fun e_ => NE7_13.out (Option.some.inj e_))
              clear c28
              clear c42
              replace hR := hR.grown hg hR.size (by intro k_ hk_; cases hk_; exact HR_.out)
              clear c48
              replace r48 := r48.off off_r48_13 hg
              replace hk13 := hn
              clear hn hg
              refine hK.out _ _ hk7 (fun hS => ?_)
              refine wpAnyH_done (by kernel_rfl) ?_ _
              clear hS
              go_wp2_with fail
              go_meet
              exact ⟨_, _, _, rfl, hk13, (by have h_ := r48.fp; rw [neg_val] at h_; exact h_), rAy.fp, HR_.out, hR⟩
          · skip
            refine wp_alloc_agg 29 rfl [(.slice none 0 0), (.slice none 0 0), (.bool false)] 3 (by kernel_rfl) ?_
            intro w12 hk13 hb
            have hz_ := hB.size
            have hR0_ := hR.size
            have lt7_ := hk7.lt
            have off_rAx_13 := NatRes.off_old rAx
            have off_rAy_13 := NatRes.off_old rAy
            replace hB := hB.trans (hb.mono hB.size)
            replace rAx := rAx.below hb
            replace rAy := rAy.below hb
            replace hk7 := hk7.keep hb
            replace c28 := c28.below hb
            replace c42 := c42.below hb
            replace hR := hR.trans (hb.mono hR.size)
            clear hb
            obtain ⟨g13, hg_⟩ : ∃ g, g = w11.heap.size := ⟨_, rfl⟩
            rw [← hg_] at hk13 off_rAx_13 off_rAy_13 ⊢
            have HG13 : Hid (w.heap.size ≤ g13) := Lib.hid (by rw [hg_]; exact hz_)
            have NE7_13 : Hid (g7 ≠ g13) := Lib.hid (by rw [hg_]; exact Nat.ne_of_lt lt7_)
            have HR_ : Hid (w10.heap.size ≤ g13) := Lib.hid (by rw [hg_]; exact hR0_)
            clear hR0_
            clear hg_ hz_ lt7_
            refine hK.out _ _ hk7 (fun hS => ?_)
            refine wpAnyH_ready (rs := [2]) (by kernel_rfl) (by simp) ?_
            refine AllReadyH.cons rfl (fun K hK => ?_) AllReadyH.nil
            rw [if_pos (by rfl)]
            simp only [List.getElem_toArray, List.getElem_cons_zero, List.getElem_cons_succ]
            go_simp
            refine (sub_f (CanAt.nil0 w12).num rAx.fp.num (tP.below hB)).mono ?_; rintro e_ w13 ⟨v48, rfl, hn, hb⟩
            dsimp only
            have c48 := hn.fp
            have r48 := hn.mono (Nat.zero_le _)
            have off_r48_7 := NatRes.off_new hn hk7.lt
            have off_r48_13 := NatRes.off_new hn hk13.lt
            replace hB := hB.trans (hb.mono hB.size)
            replace rAx := rAx.below hb
            replace rAy := rAy.below hb
            replace hk7 := hk7.keep hb
            replace c28 := c28.below hb
            replace c42 := c42.below hb
            replace hR := hR.trans (hb.mono hR.size)
            replace hk13 := hk13.keep hb
            clear hb hn
            refine hK.out _ _ hk7 (fun hS => ?_)
            obtain ⟨a48_, n48_, p48_, rfl⟩ := c48.sliced
            refine wpAnyH_ready (rs := [5]) (by kernel_rfl) (by simp) ?_
            refine AllReadyH.cons rfl (fun K hK => ?_) AllReadyH.nil
            rw [if_pos (by rfl)]
            simp only [List.getElem_toArray, List.getElem_cons_zero, List.getElem_cons_succ]
            go_simp
            refine hK.out _ _ hS (fun hS => ?_)
            refine wpAnyH_ready (rs := [7]) (by kernel_rfl) (by simp) ?_
            refine AllReadyH.cons rfl (fun K hK => ?_) AllReadyH.nil
            rw [if_pos (by rfl)]
            simp only [List.getElem_toArray, List.getElem_cons_zero, List.getElem_cons_succ]
            refine wp_store_agg 29 _ _ rfl g13 29 [(.slice none 0 0), (.slice none 0 0), (.bool false)] [(.slice a48_ n48_ p48_), (.slice aAy_ nAy_ pAy_), (.bool false)] rfl rfl hk13 size_pt (by intro v_ hv_; simp only [List.mem_cons, List.not_mem_nil, or_false] at hv_; rcases hv_ with rfl | rfl | rfl <;> first | rfl | exact c48.one_cell | exact rAy.fp.one_cell) rfl ?_
            intro w14 hn hg
            replace hB := hB.grown hg hB.size (by intro k_ hk_; cases hk_; exact HG13.out)
            replace rAx := rAx.off off_rAx_13 hg
            replace rAy := rAy.off off_rAy_13 hg
            replace hk7 := hk7.grown hg (fun e_ => NE7_13.out (Option.some.inj e_))
            clear c28
            clear c42
            replace hR := hR.grown hg hR.size (by intro k_ hk_; cases hk_; exact HR_.out)
            replace hk13 := hn
            clear c48
            replace r48 := r48.off off_r48_13 hg
            clear hn hg
            refine hK.out _ _ hk7 (fun hS => ?_)
            refine wpAnyH_done (by kernel_rfl) ?_ _
            clear hS
            go_wp2_with fail
            go_meet
            exact ⟨_, _, _, rfl, hk13, (by have h_ := r48.fp; rw [neg_val] at h_; exact h_), rAy.fp, HR_.out, hR⟩
        case rest =>
          obtain ⟨g13, vNx, vNy, rfl, hk13, cNx, cNy, hgx_, hb⟩ := hcut
          have HG13 : Hid (w.heap.size ≤ g13) := Lib.hid (Nat.le_trans hB.size hgx_)
          obtain ⟨w11, rfl⟩ : ∃ x, x = wc := ⟨_, rfl⟩
          replace hB := hB.trans (hb.mono hB.size)
          replace rAx := rAx.below hb
          replace rAy := rAy.below hb
          replace hk7 := hk7.keep hb
          replace c28 := c28.below hb
          replace c42 := c42.below hb
          clear hb hgx_ hR
          clear rAx
          clear rAy
          clear hk7
          have hR := Below.refl w11.heap.size w11
          go_upto_region 11 with fail
          go_cut [14] (fun p wx => PtVar w11 (rOf13 A S K) p wx)
          case first =>
            go_wp2_with fail
            refine wp_region_held_drew (S := fun W_ => Rw W_ g13 29 [vNx, vNy, .bool false]) (by kernel_rfl) (hk13) (fun hS => ?_)
            have hb := below_drewN (Below.refl w11.heap.size w11) 1
            obtain ⟨w12, hw_⟩ : ∃ x, x = World.drew w11 := ⟨_, rfl⟩
            rw [show World.drewN w11 1 = w12 from hw_.symm] at hb
            rw [← hw_] at hS ⊢
            clear hw_
            replace hB := hB.trans (hb.mono hB.size)
            replace c28 := c28.below hb
            replace c42 := c42.below hb
            replace hk13 := hk13.keep hb
            replace cNx := cNx.below hb
            replace cNy := cNy.below hb
            replace hR := hR.trans (hb.mono hR.size)
            clear hb
            refine wpAnyH_take (i := 2) (v := ?_) rfl (by kernel_rfl) (by kernel_rfl) (by kernel_rfl) (fun _ _ _ h => h) (Or.inl ⟨by rfl, ?_⟩) hS ?_
            rotate_left
            · intro w _; go_simp; try with_reducible rfl
            simp only [List.getElem_toArray, List.getElem_cons_zero, List.getElem_cons_succ, Act.put, List.setIfInBounds_toArray, List.set_cons_zero, List.set_cons_succ]
            refine wpAnyH_take (i := 4) (v := .agg #[vNx, vNy, .bool false]) rfl (by kernel_rfl) (by kernel_rfl) (by kernel_rfl) (fun _ _ _ h => h) (yieldsIf_load_mid (by rfl) 29 _ rfl g13 0 rfl [vNx, vNy, .bool false] _ (fun W_ hW_ => Rw.range hW_ 0 _ fun j_ v_ hv_ => by rwa [Nat.zero_add]) Tryd.underlying29 rfl size_pt) hS ?_
            simp only [List.getElem_toArray, List.getElem_cons_zero, List.getElem_cons_succ, Act.put, List.setIfInBounds_toArray, List.set_cons_zero, List.set_cons_succ]
            refine wpAnyH_take (i := 6) (v := ?_) rfl (by kernel_rfl) (by kernel_rfl) (by kernel_rfl) (fun _ _ _ h => h) (Or.inl ⟨by rfl, ?_⟩) hS ?_
            rotate_left
            · intro w _; go_simp; try with_reducible rfl
            simp only [List.getElem_toArray, List.getElem_cons_zero, List.getElem_cons_succ, Act.put, List.setIfInBounds_toArray, List.set_cons_zero, List.set_cons_succ]
            refine wpAnyH_ready (rs := [0, 10]) (by kernel_rfl) (by simp) ?_
            refine AllReadyH.cons rfl (fun K hK => ?_) (AllReadyH.cons rfl (fun K hK => ?_) AllReadyH.nil) <;> rw [if_pos (by rfl)] <;> simp only [List.getElem_toArray, List.getElem_cons_zero, List.getElem_cons_succ]
            · skip
              go_simp
              refine (base_c w12 (tB.below hB)).mono ?_; rintro e_ w13 ⟨v52, rfl, r52, hb⟩
              dsimp only
              replace r52 := r52.mono (Nat.zero_le _)
              replace hB := hB.trans (hb.mono hB.size)
              replace c28 := c28.below hb
              replace c42 := c42.below hb
              replace hk13 := hk13.keep hb
              replace cNx := cNx.below hb
              replace cNy := cNy.below hb
              replace hR := hR.trans (hb.mono hR.size)
              clear hb
              refine hK.out _ _ hk13 (fun hS => ?_)
              refine wpAnyH_ready (rs := [1, 10]) (by kernel_rfl) (by simp) ?_
              refine AllReadyH.cons rfl (fun K hK => ?_) (AllReadyH.cons rfl (fun K hK => ?_) AllReadyH.nil) <;> rw [if_pos (by rfl)] <;> simp only [List.getElem_toArray, List.getElem_cons_zero, List.getElem_cons_succ]
              · skip
                go_simp
                refine (spotOf_c (P := eB) r52.at_.in_ (tP.below hB)).mono ?_; rintro e_ w14 ⟨v53, rfl, r53, hb⟩
                dsimp only
                replace r53 := r53.mono (Nat.zero_le _)
                replace hB := hB.trans (hb.mono hB.size)
                replace c28 := c28.below hb
                replace c42 := c42.below hb
                replace hk13 := hk13.keep hb
                replace cNx := cNx.below hb
                replace cNy := cNy.below hb
                replace hR := hR.trans (hb.mono hR.size)
                replace r52 := r52.below hb
                clear hb
                refine hK.out _ _ hk13 (fun hS => ?_)
                refine wpAnyH_ready (rs := [3, 10]) (by kernel_rfl) (by simp) ?_
                refine AllReadyH.cons rfl (fun K hK => ?_) (AllReadyH.cons rfl (fun K hK => ?_) AllReadyH.nil) <;> rw [if_pos (by rfl)] <;> simp only [List.getElem_toArray, List.getElem_cons_zero, List.getElem_cons_succ]
                · skip
                  go_simp
                  refine (times_c r53.at_ (Sp.of_is eB) eB_on c28.num (tP.below hB) (tD.below hB)).mono ?_; rintro e_ w15 ⟨v55, sp55, rfl, r55, his, hb⟩
                  dsimp only
                  have HI55 := Lib.hid his
                  clear his
                  replace r55 := r55.mono (Nat.zero_le _)
                  replace hB := hB.trans (hb.mono hB.size)
                  replace c28 := c28.below hb
                  replace c42 := c42.below hb
                  replace hk13 := hk13.keep hb
                  replace cNx := cNx.below hb
                  replace cNy := cNy.below hb
                  replace hR := hR.trans (hb.mono hR.size)
                  replace r52 := r52.below hb
                  replace r53 := r53.below hb
                  clear hb
                  refine hK.out _ _ hk13 (fun hS => ?_)
                  refine wpAnyH_ready (rs := [5, 10]) (by kernel_rfl) (by simp) ?_
                  refine AllReadyH.cons rfl (fun K hK => ?_) (AllReadyH.cons rfl (fun K hK => ?_) AllReadyH.nil) <;> rw [if_pos (by rfl)] <;> simp only [List.getElem_toArray, List.getElem_cons_zero, List.getElem_cons_succ]
                  · skip
                    go_simp
                    refine (spotOf_c (P := eNeg A) ⟨_, _, rfl, cNx.num, cNy.num⟩ (tP.below hB)).mono ?_; rintro e_ w16 ⟨v57, rfl, r57, hb⟩
                    dsimp only
                    replace r57 := r57.mono (Nat.zero_le _)
                    replace hB := hB.trans (hb.mono hB.size)
                    replace c28 := c28.below hb
                    replace c42 := c42.below hb
                    replace hk13 := hk13.keep hb
                    replace cNx := cNx.below hb
                    replace cNy := cNy.below hb
                    replace hR := hR.trans (hb.mono hR.size)
                    replace r52 := r52.below hb
                    replace r53 := r53.below hb
                    replace r55 := r55.below hb
                    clear hb
                    refine hK.out _ _ hk13 (fun hS => ?_)
                    refine wpAnyH_ready (rs := [7, 10]) (by kernel_rfl) (by simp) ?_
                    refine AllReadyH.cons rfl (fun K hK => ?_) (AllReadyH.cons rfl (fun K hK => ?_) AllReadyH.nil) <;> rw [if_pos (by rfl)] <;> simp only [List.getElem_toArray, List.getElem_cons_zero, List.getElem_cons_succ]
                    · skip
                      go_simp
                      refine (times_c r57.at_ (Sp.of_is (eNeg A)) (eNeg_on OA.out) c42.num (tP.below hB) (tD.below hB)).mono ?_; rintro e_ w17 ⟨v59, sp59, rfl, r59, his, hb⟩
                      dsimp only
                      have HI59 := Lib.hid his
                      clear his
                      replace r59 := r59.mono (Nat.zero_le _)
                      replace hB := hB.trans (hb.mono hB.size)
                      replace c28 := c28.below hb
                      replace c42 := c42.below hb
                      replace hk13 := hk13.keep hb
                      replace cNx := cNx.below hb
                      replace cNy := cNy.below hb
                      replace hR := hR.trans (hb.mono hR.size)
                      replace r52 := r52.below hb
                      replace r53 := r53.below hb
                      replace r55 := r55.below hb
                      replace r57 := r57.below hb
                      clear hb
                      refine hK.out _ _ hk13 (fun hS => ?_)
                      refine wpAnyH_ready (rs := [8, 10]) (by kernel_rfl) (by simp) ?_
                      refine AllReadyH.cons rfl (fun K hK => ?_) (AllReadyH.cons rfl (fun K hK => ?_) AllReadyH.nil) <;> rw [if_pos (by rfl)] <;> simp only [List.getElem_toArray, List.getElem_cons_zero, List.getElem_cons_succ]
                      · skip
                        go_simp
                        refine (plus_c r55.at_ r59.at_ (tP.below hB) (tD.below hB)).mono ?_; rintro e_ w18 ⟨v60, rfl, r60, hb⟩
                        dsimp only
                        replace r60 := r60.mono (Nat.zero_le _)
                        replace hB := hB.trans (hb.mono hB.size)
                        replace c28 := c28.below hb
                        replace c42 := c42.below hb
                        replace hk13 := hk13.keep hb
                        replace cNx := cNx.below hb
                        replace cNy := cNy.below hb
                        replace hR := hR.trans (hb.mono hR.size)
                        replace r52 := r52.below hb
                        replace r53 := r53.below hb
                        replace r55 := r55.below hb
                        replace r57 := r57.below hb
                        replace r59 := r59.below hb
                        clear hb
                        refine hK.out _ _ hk13 (fun hS => ?_)
                        refine wpAnyH_ready (rs := [9, 10]) (by kernel_rfl) (by simp) ?_
                        refine AllReadyH.cons rfl (fun K hK => ?_) (AllReadyH.cons rfl (fun K hK => ?_) AllReadyH.nil) <;> rw [if_pos (by rfl)] <;> simp only [List.getElem_toArray, List.getElem_cons_zero, List.getElem_cons_succ]
                        · skip
                          go_simp
                          refine (point_is r60.at_ (Sp.plus_is HI55.out HI59.out (eMul_on eB_on _) (eMul_on (eNeg_on OA.out) _)) (tP.below hB)).mono ?_; rintro e_ w19 ⟨v61, rfl, hn, hb⟩
                          dsimp only
                          obtain ⟨v61x, v61y, rfl, h61x, h61y, _⟩ := hn
                          have off_r61x_13 := NatRes.off_new h61x hk13.lt
                          have off_r61y_13 := NatRes.off_new h61y hk13.lt
                          have r61x := h61x.mono (Nat.zero_le _)
                          have r61y := h61y.mono (Nat.zero_le _)
                          clear h61x h61y
                          replace hB := hB.trans (hb.mono hB.size)
                          replace c28 := c28.below hb
                          replace c42 := c42.below hb
                          replace hk13 := hk13.keep hb
                          replace cNx := cNx.below hb
                          replace cNy := cNy.below hb
                          replace hR := hR.trans (hb.mono hR.size)
                          replace r52 := r52.below hb
                          replace r53 := r53.below hb
                          replace r55 := r55.below hb
                          replace r57 := r57.below hb
                          replace r59 := r59.below hb
                          replace r60 := r60.below hb
                          clear hb
                          refine hK.out _ _ hk13 (fun hS => ?_)
                          refine wpAnyH_ready (rs := [10]) (by kernel_rfl) (by simp) ?_
                          refine AllReadyH.cons rfl (fun K hK => ?_) AllReadyH.nil
                          rw [if_pos (by rfl)]
                          simp only [List.getElem_toArray, List.getElem_cons_zero, List.getElem_cons_succ]
                          refine wp_alloc_agg 29 rfl [(.slice none 0 0), (.slice none 0 0), (.bool false)] 3 (by kernel_rfl) ?_
                          intro w20 hk14 hb
                          have hz_ := hB.size
                          have hR0_ := hR.size
                          have lt13_ := hk13.lt
                          have off_r61x_14 := NatRes.off_old r61x
                          have off_r61y_14 := NatRes.off_old r61y
                          replace hB := hB.trans (hb.mono hB.size)
                          replace c28 := c28.below hb
                          replace c42 := c42.below hb
                          replace hk13 := hk13.keep hb
                          replace cNx := cNx.below hb
                          replace cNy := cNy.below hb
                          replace hR := hR.trans (hb.mono hR.size)
                          replace r52 := r52.below hb
                          replace r53 := r53.below hb
                          replace r55 := r55.below hb
                          replace r57 := r57.below hb
                          replace r59 := r59.below hb
                          replace r60 := r60.below hb
                          replace r61x := r61x.below hb
                          replace r61y := r61y.below hb
                          clear hb
                          obtain ⟨g14, hg_⟩ : ∃ g, g = w19.heap.size := ⟨_, rfl⟩
                          rw [← hg_] at hk14 off_r61x_14 off_r61y_14 ⊢
                          have HG14 : Hid (w.heap.size ≤ g14) := Lib.hid (by rw [hg_]; exact hz_)
                          have NE13_14 : Hid (g13 ≠ g14) := Lib.hid (by rw [hg_]; exact Nat.ne_of_lt lt13_)
                          have HR_ : Hid (w11.heap.size ≤ g14) := Lib.hid (by rw [hg_]; exact hR0_)
                          clear hR0_
                          clear hg_ hz_ lt13_
                          refine hK.out _ _ hk13 (fun hS => ?_)
                          refine wpAnyH_ready (rs := [11]) (by kernel_rfl) (by simp) ?_
                          refine AllReadyH.cons rfl (fun K hK => ?_) AllReadyH.nil
                          rw [if_pos (by rfl)]
                          simp only [List.getElem_toArray, List.getElem_cons_zero, List.getElem_cons_succ]
                          refine wp_store_agg 29 _ _ rfl g14 29 [(.slice none 0 0), (.slice none 0 0), (.bool false)] [v61x, v61y, .bool false] rfl rfl hk14 size_pt (by intro v_ hv_; simp only [List.mem_cons, List.not_mem_nil, or_false] at hv_; rcases hv_ with rfl | rfl | rfl <;> first | rfl | exact r61x.fp.one_cell | exact r61y.fp.one_cell) rfl ?_
                          intro w21 hn hg
                          replace hB := hB.grown hg hB.size (by intro k_ hk_; cases hk_; exact HG14.out)
                          clear c28
                          clear c42
                          replace hk13 := hk13.grown hg (fun e_ => NE13_14.out (Option.some.inj e_))
                          clear cNx
                          clear cNy
                          replace hR := hR.grown hg hR.size (by intro k_ hk_; cases hk_; exact HR_.out)
                          clear r52
                          clear r53
                          clear r55
                          clear r57
                          clear r59
                          clear r60
                          replace r61x := r61x.off off_r61x_14 hg
                          replace r61y := r61y.off off_r61y_14 hg
                          replace hk14 := hn
                          clear hn hg
                          refine hK.out _ _ hk13 (fun hS => ?_)
                          refine wpAnyH_done (by kernel_rfl) ?_ _
                          clear hS
                          go_wp2_with fail
                          go_meet
                          exact ⟨_, _, _, rfl, hk14, r61x.fp, r61y.fp, HR_.out, hR⟩
                        · skip
                          refine wp_alloc_agg 29 rfl [(.slice none 0 0), (.slice none 0 0), (.bool false)] 3 (by kernel_rfl) ?_
                          intro w19 hk14 hb
                          have hz_ := hB.size
                          have hR0_ := hR.size
                          have lt13_ := hk13.lt
                          replace hB := hB.trans (hb.mono hB.size)
                          replace c28 := c28.below hb
                          replace c42 := c42.below hb
                          replace hk13 := hk13.keep hb
                          replace cNx := cNx.below hb
                          replace cNy := cNy.below hb
                          replace hR := hR.trans (hb.mono hR.size)
                          replace r52 := r52.below hb
                          replace r53 := r53.below hb
                          replace r55 := r55.below hb
                          replace r57 := r57.below hb
                          replace r59 := r59.below hb
                          replace r60 := r60.below hb
                          clear hb
                          obtain ⟨g14, hg_⟩ : ∃ g, g = w18.heap.size := ⟨_, rfl⟩
                          rw [← hg_] at hk14 ⊢
                          have HG14 : Hid (w.heap.size ≤ g14) := Lib.hid (by rw [hg_]; exact hz_)
                          have NE13_14 : Hid (g13 ≠ g14) := Lib.hid (by rw [hg_]; exact Nat.ne_of_lt lt13_)
                          have HR_ : Hid (w11.heap.size ≤ g14) := Lib.hid (by rw [hg_]; exact hR0_)
                          clear hR0_
                          clear hg_ hz_ lt13_
                          refine hK.out _ _ hk13 (fun hS => ?_)
                          refine wpAnyH_ready (rs := [9]) (by kernel_rfl) (by simp) ?_
                          refine AllReadyH.cons rfl (fun K hK => ?_) AllReadyH.nil
                          rw [if_pos (by rfl)]
                          simp only [List.getElem_toArray, List.getElem_cons_zero, List.getElem_cons_succ]
                          go_simp
                          refine (point_is r60.at_ (Sp.plus_is HI55.out HI59.out (eMul_on eB_on _) (eMul_on (eNeg_on OA.out) _)) (tP.below hB)).mono ?_; rintro e_ w20 ⟨v61, rfl, hn, hb⟩
                          dsimp only
                          obtain ⟨v61x, v61y, rfl, h61x, h61y, _⟩ := hn
                          have off_r61x_13 := NatRes.off_new h61x hk13.lt
                          have off_r61x_14 := NatRes.off_new h61x hk14.lt
                          have off_r61y_13 := NatRes.off_new h61y hk13.lt
                          have off_r61y_14 := NatRes.off_new h61y hk14.lt
                          have r61x := h61x.mono (Nat.zero_le _)
                          have r61y := h61y.mono (Nat.zero_le _)
                          clear h61x h61y
                          replace hB := hB.trans (hb.mono hB.size)
                          replace c28 := c28.below hb
                          replace c42 := c42.below hb
                          replace hk13 := hk13.keep hb
                          replace cNx := cNx.below hb
                          replace cNy := cNy.below hb
                          replace hR := hR.trans (hb.mono hR.size)
                          replace r52 := r52.below hb
                          replace r53 := r53.below hb
                          replace r55 := r55.below hb
                          replace r57 := r57.below hb
                          replace r59 := r59.below hb
                          replace r60 := r60.below hb
                          replace hk14 := hk14.keep hb
                          clear hb
                          refine hK.out _ _ hk13 (fun hS => ?_)
                          refine wpAnyH_ready (rs := [11]) (by kernel_rfl) (by simp) ?_
                          refine AllReadyH.cons rfl (fun K hK => ?_) AllReadyH.nil
                          rw [if_pos (by rfl)]
                          simp only [List.getElem_toArray, List.getElem_cons_zero, List.getElem_cons_succ]
                          refine wp_store_agg 29 _ _ rfl g14 29 [(.slice none 0 0), (.slice none 0 0), (.bool false)] [v61x, v61y, .bool false] rfl rfl hk14 size_pt (by intro v_ hv_; simp only [List.mem_cons, List.not_mem_nil, or_false] at hv_; rcases hv_ with rfl | rfl | rfl <;> first | rfl | exact r61x.fp.one_cell | exact r61y.fp.one_cell) rfl ?_
                          intro w21 hn hg
                          replace hB := hB.grown hg hB.size (by intro k_ hk_; cases hk_; exact HG14.out)
                          clear c28
                          clear c42
                          replace hk13 := hk13.grown hg (fun e_ => NE13_14.out (Option.some.inj e_))
                          clear cNx
                          clear cNy
                          replace hR := hR.grown hg hR.size (by intro k_ hk_; cases hk_; exact HR_.out)
                          clear r52
                          clear r53
                          clear r55
                          clear r57
                          clear r59
                          clear r60
                          replace hk14 := hn
                          replace r61x := r61x.off off_r61x_14 hg
                          replace r61y := r61y.off off_r61y_14 hg
                          clear hn hg
                          refine hK.out _ _ hk13 (fun hS => ?_)
                          refine wpAnyH_done (by kernel_rfl) ?_ _
                          clear hS
                          go_wp2_with fail
                          go_meet
                          exact ⟨_, _, _, rfl, hk14, r61x.fp, r61y.fp, HR_.out, hR⟩
                      · skip
                        refine wp_alloc_agg 29 rfl [(.slice none 0 0), (.slice none 0 0), (.bool false)] 3 (by kernel_rfl) ?_
                        intro w18 hk14 hb
                        have hz_ := hB.size
                        have hR0_ := hR.size
                        have lt13_ := hk13.lt
                        replace hB := hB.trans (hb.mono hB.size)
                        replace c28 := c28.below hb
                        replace c42 := c42.below hb
                        replace hk13 := hk13.keep hb
                        replace cNx := cNx.below hb
                        replace cNy := cNy.below hb
                        replace hR := hR.trans (hb.mono hR.size)
                        replace r52 := r52.below hb
                        replace r53 := r53.below hb
                        replace r55 := r55.below hb
                        replace r57 := r57.below hb
                        replace r59 := r59.below hb
                        clear hb
                        obtain ⟨g14, hg_⟩ : ∃ g, g = w17.heap.size := ⟨_, rfl⟩
                        rw [← hg_] at hk14 ⊢
                        have HG14 : Hid (w.heap.size ≤ g14) := Lib.hid (by rw [hg_]; exact hz_)
                        have NE13_14 : Hid (g13 ≠ g14) := Lib.hid (by rw [hg_]; exact Nat.ne_of_lt lt13_)
                        have HR_ : Hid (w11.heap.size ≤ g14) := Lib.hid (by rw [hg_]; exact hR0_)
                        clear hR0_
                        clear hg_ hz_ lt13_
                        refine hK.out _ _ hk13 (fun hS => ?_)
                        refine wpAnyH_ready (rs := [8]) (by kernel_rfl) (by simp) ?_
                        refine AllReadyH.cons rfl (fun K hK => ?_) AllReadyH.nil
                        rw [if_pos (by rfl)]
                        simp only [List.getElem_toArray, List.getElem_cons_zero, List.getElem_cons_succ]
                        go_simp
                        refine (plus_c r55.at_ r59.at_ (tP.below hB) (tD.below hB)).mono ?_; rintro e_ w19 ⟨v60, rfl, r60, hb⟩
                        dsimp only
                        replace r60 := r60.mono (Nat.zero_le _)
                        replace hB := hB.trans (hb.mono hB.size)
                        replace c28 := c28.below hb
                        replace c42 := c42.below hb
                        replace hk13 := hk13.keep hb
                        replace cNx := cNx.below hb
                        replace cNy := cNy.below hb
                        replace hR := hR.trans (hb.mono hR.size)
                        replace r52 := r52.below hb
                        replace r53 := r53.below hb
                        replace r55 := r55.below hb
                        replace r57 := r57.below hb
                        replace r59 := r59.below hb
                        replace hk14 := hk14.keep hb
                        clear hb
                        refine hK.out _ _ hk13 (fun hS => ?_)
                        refine wpAnyH_ready (rs := [9]) (by kernel_rfl) (by simp) ?_
                        refine AllReadyH.cons rfl (fun K hK => ?_) AllReadyH.nil
                        rw [if_pos (by rfl)]
                        simp only [List.getElem_toArray, List.getElem_cons_zero, List.getElem_cons_succ]
                        go_simp
                        refine (point_is r60.at_ (Sp.plus_is HI55.out HI59.out (eMul_on eB_on _) (eMul_on (eNeg_on OA.out) _)) (tP.below hB)).mono ?_; rintro e_ w20 ⟨v61, rfl, hn, hb⟩
                        dsimp only
                        obtain ⟨v61x, v61y, rfl, h61x, h61y, _⟩ := hn
                        have off_r61x_13 := NatRes.off_new h61x hk13.lt
                        have off_r61x_14 := NatRes.off_new h61x hk14.lt
                        have off_r61y_13 := NatRes.off_new h61y hk13.lt
                        have off_r61y_14 := NatRes.off_new h61y hk14.lt
                        have r61x := h61x.mono (Nat.zero_le _)
                        have r61y := h61y.mono (Nat.zero_le _)
                        clear h61x h61y
                        replace hB := hB.trans (hb.mono hB.size)
                        replace c28 := c28.below hb
                        replace c42 := c42.below hb
                        replace hk13 := hk13.keep hb
                        replace cNx := cNx.below hb
                        replace cNy := cNy.below hb
                        replace hR := hR.trans (hb.mono hR.size)
                        replace r52 := r52.below hb
                        replace r53 := r53.below hb
                        replace r55 := r55.below hb
                        replace r57 := r57.below hb
                        replace r59 := r59.below hb
                        replace hk14 := hk14.keep hb
                        replace r60 := r60.below hb
                        clear hb
                        refine hK.out _ _ hk13 (fun hS => ?_)
                        refine wpAnyH_ready (rs := [11]) (by kernel_rfl) (by simp) ?_
                        refine AllReadyH.cons rfl (fun K hK => ?_) AllReadyH.nil
                        rw [if_pos (by rfl)]
                        simp only [List.getElem_toArray, List.getElem_cons_zero, List.getElem_cons_succ]
                        refine wp_store_agg 29 _ _ rfl g14 29 [(.slice none 0 0), (.slice none 0 0), (.bool false)] [v61x, v61y, .bool false] rfl rfl hk14 size_pt (by intro v_ hv_; simp only [List.mem_cons, List.not_mem_nil, or_false] at hv_; rcases hv_ with rfl | rfl | rfl <;> first | rfl | exact r61x.fp.one_cell | exact r61y.fp.one_cell) rfl ?_
                        intro w21 hn hg
                        replace hB := hB.grown hg hB.size (by intro k_ hk_; cases hk_; exact HG14.out)
                        clear c28
                        clear c42
                        replace hk13 := hk13.grown hg (fun e_ => NE13_14.out (Option.some.inj e_))
                        clear cNx
                        clear cNy
                        replace hR := hR.grown hg hR.size (by intro k_ hk_; cases hk_; exact HR_.out)
                        clear r52
                        clear r53
                        clear r55
                        clear r57
                        clear r59
                        replace hk14 := hn
                        clear r60
                        replace r61x := r61x.off off_r61x_14 hg
                        replace r61y := r61y.off off_r61y_14 hg
                        clear hn hg
                        refine hK.out _ _ hk13 (fun hS => ?_)
                        refine wpAnyH_done (by kernel_rfl) ?_ _
                        clear hS
                        go_wp2_with fail
                        go_meet
                        exact ⟨_, _, _, rfl, hk14, r61x.fp, r61y.fp, HR_.out, hR⟩
                    · skip
                      refine wp_alloc_agg 29 rfl [(.slice none 0 0), (.slice none 0 0), (.bool false)] 3 (by kernel_rfl) ?_
                      intro w17 hk14 hb
                      have hz_ := hB.size
                      have hR0_ := hR.size
                      have lt13_ := hk13.lt
                      replace hB := hB.trans (hb.mono hB.size)
                      replace c28 := c28.below hb
                      replace c42 := c42.below hb
                      replace hk13 := hk13.keep hb
                      replace cNx := cNx.below hb
                      replace cNy := cNy.below hb
                      replace hR := hR.trans (hb.mono hR.size)
                      replace r52 := r52.below hb
                      replace r53 := r53.below hb
                      replace r55 := r55.below hb
                      replace r57 := r57.below hb
                      clear hb
                      obtain ⟨g14, hg_⟩ : ∃ g, g = w16.heap.size := ⟨_, rfl⟩
                      rw [← hg_] at hk14 ⊢
                      have HG14 : Hid (w.heap.size ≤ g14) := Lib.hid (by rw [hg_]; exact hz_)
                      have NE13_14 : Hid (g13 ≠ g14) := Lib.hid (by rw [hg_]; exact Nat.ne_of_lt lt13_)
                      have HR_ : Hid (w11.heap.size ≤ g14) := Lib.hid (by rw [hg_]; exact hR0_)
                      clear hR0_
                      clear hg_ hz_ lt13_
                      refine hK.out _ _ hk13 (fun hS => ?_)
                      refine wpAnyH_ready (rs := [7]) (by kernel_rfl) (by simp) ?_
                      refine AllReadyH.cons rfl (fun K hK => ?_) AllReadyH.nil
                      rw [if_pos (by rfl)]
                      simp only [List.getElem_toArray, List.getElem_cons_zero, List.getElem_cons_succ]
                      go_simp
                      refine (times_c r57.at_ (Sp.of_is (eNeg A)) (eNeg_on OA.out) c42.num (tP.below hB) (tD.below hB)).mono ?_; rintro e_ w18 ⟨v59, sp59, rfl, r59, his, hb⟩
                      dsimp only
                      have HI59 := Lib.hid his
                      clear his
                      replace r59 := r59.mono (Nat.zero_le _)
                      replace hB := hB.trans (hb.mono hB.size)
                      replace c28 := c28.below hb
                      replace c42 := c42.below hb
                      replace hk13 := hk13.keep hb
                      replace cNx := cNx.below hb
                      replace cNy := cNy.below hb
                      replace hR := hR.trans (hb.mono hR.size)
                      replace r52 := r52.below hb
                      replace r53 := r53.below hb
                      replace r55 := r55.below hb
                      replace r57 := r57.below hb
                      replace hk14 := hk14.keep hb
                      clear hb
                      refine hK.out _ _ hk13 (fun hS => ?_)
                      refine wpAnyH_ready (rs := [8]) (by kernel_rfl) (by simp) ?_
                      refine AllReadyH.cons rfl (fun K hK => ?_) AllReadyH.nil
                      rw [if_pos (by rfl)]
                      simp only [List.getElem_toArray, List.getElem_cons_zero, List.getElem_cons_succ]
                      go_simp
                      refine (plus_c r55.at_ r59.at_ (tP.below hB) (tD.below hB)).mono ?_; rintro e_ w19 ⟨v60, rfl, r60, hb⟩
                      dsimp only
                      replace r60 := r60.mono (Nat.zero_le _)
                      replace hB := hB.trans (hb.mono hB.size)
                      replace c28 := c28.below hb
                      replace c42 := c42.below hb
                      replace hk13 := hk13.keep hb
                      replace cNx := cNx.below hb
                      replace cNy := cNy.below hb
                      replace hR := hR.trans (hb.mono hR.size)
                      replace r52 := r52.below hb
                      replace r53 := r53.below hb
                      replace r55 := r55.below hb
                      replace r57 := r57.below hb
                      replace hk14 := hk14.keep hb
                      replace r59 := r59.below hb
                      clear hb
                      refine hK.out _ _ hk13 (fun hS => ?_)
                      refine wpAnyH_ready (rs := [9]) (by kernel_rfl) (by simp) ?_
                      refine AllReadyH.cons rfl (fun K hK => ?_) AllReadyH.nil
                      rw [if_pos (by rfl)]
                      simp only [List.getElem_toArray, List.getElem_cons_zero, List.getElem_cons_succ]
                      go_simp
                      refine (point_is r60.at_ (Sp.plus_is HI55.out HI59.out (eMul_on eB_on _) (eMul_on (eNeg_on OA.out) _)) (tP.below hB)).mono ?_; rintro e_ w20 ⟨v61, rfl, hn, hb⟩
                      dsimp only
                      obtain ⟨v61x, v61y, rfl, h61x, h61y, _⟩ := hn
                      have off_r61x_13 := NatRes.off_new h61x hk13.lt
                      have off_r61x_14 := NatRes.off_new h61x hk14.lt
                      have off_r61y_13 := NatRes.off_new h61y hk13.lt
                      have off_r61y_14 := NatRes.off_new h61y hk14.lt
                      have r61x := h61x.mono (Nat.zero_le _)
                      have r61y := h61y.mono (Nat.zero_le _)
                      clear h61x h61y
                      replace hB := hB.trans (hb.mono hB.size)
                      replace c28 := c28.below hb
                      replace c42 := c42.below hb
                      replace hk13 := hk13.keep hb
                      replace cNx := cNx.below hb
                      replace cNy := cNy.below hb
                      replace hR := hR.trans (hb.mono hR.size)
                      replace r52 := r52.below hb
                      replace r53 := r53.below hb
                      replace r55 := r55.below hb
                      replace r57 := r57.below hb
                      replace hk14 := hk14.keep hb
                      replace r59 := r59.below hb
                      replace r60 := r60.below hb
                      clear hb
                      refine hK.out _ _ hk13 (fun hS => ?_)
                      refine wpAnyH_ready (rs := [11]) (by kernel_rfl) (by simp) ?_
                      refine AllReadyH.cons rfl (fun K hK => ?_) AllReadyH.nil
                      rw [if_pos (by rfl)]
                      simp only [List.getElem_toArray, List.getElem_cons_zero, List.getElem_cons_succ]
                      refine wp_store_agg 29 _ _ rfl g14 29 [(.slice none 0 0), (.slice none 0 0), (.bool false)] [v61x, v61y, .bool false] rfl rfl hk14 size_pt (by intro v_ hv_; simp only [List.mem_cons, List.not_mem_nil, or_false] at hv_; rcases hv_ with rfl | rfl | rfl <;> first | rfl | exact r61x.fp.one_cell | exact r61y.fp.one_cell) rfl ?_
                      intro w21 hn hg
                      replace hB := hB.grown hg hB.size (by intro k_ hk_; cases hk_; exact HG14.out)
                      clear c28
                      clear c42
                      replace hk13 := hk13.grown hg (fun e_ => NE13_14.out (Option.some.inj e_))
                      clear cNx
                      clear cNy
                      replace hR := hR.grown hg hR.size (by intro k_ hk_; cases hk_; exact HR_.out)
                      clear r52
                      clear r53
                      clear r55
                      clear r57
                      replace hk14 := hn
                      clear r59
                      clear r60
                      replace r61x := r61x.off off_r61x_14 hg
                      replace r61y := r61y.off off_r61y_14 hg
                      clear hn hg
                      refine hK.out _ _ hk13 (fun hS => ?_)
                      refine wpAnyH_done (by kernel_rfl) ?_ _
                      clear hS
                      go_wp2_with fail
                      go_meet
                      exact ⟨_, _, _, rfl, hk14, r61x.fp, r61y.fp, HR_.out, hR⟩
                  · skip
                    refine wp_alloc_agg 29 rfl [(.slice none 0 0), (.slice none 0 0), (.bool false)] 3 (by kernel_rfl) ?_
                    intro w16 hk14 hb
                    have hz_ := hB.size
                    have hR0_ := hR.size
                    have lt13_ := hk13.lt
                    replace hB := hB.trans (hb.mono hB.size)
                    replace c28 := c28.below hb
                    replace c42 := c42.below hb
                    replace hk13 := hk13.keep hb
                    replace cNx := cNx.below hb
                    replace cNy := cNy.below hb
                    replace hR := hR.trans (hb.mono hR.size)
                    replace r52 := r52.below hb
                    replace r53 := r53.below hb
                    replace r55 := r55.below hb
                    clear hb
                    obtain ⟨g14, hg_⟩ : ∃ g, g = w15.heap.size := ⟨_, rfl⟩
                    rw [← hg_] at hk14 ⊢
                    have HG14 : Hid (w.heap.size ≤ g14) := Lib.hid (by rw [hg_]; exact hz_)
                    have NE13_14 : Hid (g13 ≠ g14) := Lib.hid (by rw [hg_]; exact Nat.ne_of_lt lt13_)
                    have HR_ : Hid (w11.heap.size ≤ g14) := Lib.hid (by rw [hg_]; exact hR0_)
                    clear hR0_
                    clear hg_ hz_ lt13_
                    refine hK.out _ _ hk13 (fun hS => ?_)
                    refine wpAnyH_ready (rs := [5]) (by kernel_rfl) (by simp) ?_
                    refine AllReadyH.cons rfl (fun K hK => ?_) AllReadyH.nil
                    rw [if_pos (by rfl)]
                    simp only [List.getElem_toArray, List.getElem_cons_zero, List.getElem_cons_succ]
                    go_simp
                    refine (spotOf_c (P := eNeg A) ⟨_, _, rfl, cNx.num, cNy.num⟩ (tP.below hB)).mono ?_; rintro e_ w17 ⟨v57, rfl, r57, hb⟩
                    dsimp only
                    replace r57 := r57.mono (Nat.zero_le _)
                    replace hB := hB.trans (hb.mono hB.size)
                    replace c28 := c28.below hb
                    replace c42 := c42.below hb
                    replace hk13 := hk13.keep hb
                    replace cNx := cNx.below hb
                    replace cNy := cNy.below hb
                    replace hR := hR.trans (hb.mono hR.size)
                    replace r52 := r52.below hb
                    replace r53 := r53.below hb
                    replace r55 := r55.below hb
                    replace hk14 := hk14.keep hb
                    clear hb
                    refine hK.out _ _ hk13 (fun hS => ?_)
                    refine wpAnyH_ready (rs := [7]) (by kernel_rfl) (by simp) ?_
                    refine AllReadyH.cons rfl (fun K hK => ?_) AllReadyH.nil
                    rw [if_pos (by rfl)]
                    simp only [List.getElem_toArray, List.getElem_cons_zero, List.getElem_cons_succ]
                    go_simp
                    refine (times_c r57.at_ (Sp.of_is (eNeg A)) (eNeg_on OA.out) c42.num (tP.below hB) (tD.below hB)).mono ?_; rintro e_ w18 ⟨v59, sp59, rfl, r59, his, hb⟩
                    dsimp only
                    have HI59 := Lib.hid his
                    clear his
                    replace r59 := r59.mono (Nat.zero_le _)
                    replace hB := hB.trans (hb.mono hB.size)
                    replace c28 := c28.below hb
                    replace c42 := c42.below hb
                    replace hk13 := hk13.keep hb
                    replace cNx := cNx.below hb
                    replace cNy := cNy.below hb
                    replace hR := hR.trans (hb.mono hR.size)
                    replace r52 := r52.below hb
                    replace r53 := r53.below hb
                    replace r55 := r55.below hb
                    replace hk14 := hk14.keep hb
                    replace r57 := r57.below hb
                    clear hb
                    refine hK.out _ _ hk13 (fun hS => ?_)
                    refine wpAnyH_ready (rs := [8]) (by kernel_rfl) (by simp) ?_
                    refine AllReadyH.cons rfl (fun K hK => ?_) AllReadyH.nil
                    rw [if_pos (by rfl)]
                    simp only [List.getElem_toArray, List.getElem_cons_zero, List.getElem_cons_succ]
                    go_simp
                    refine (plus_c r55.at_ r59.at_ (tP.below hB) (tD.below hB)).mono ?_; rintro e_ w19 ⟨v60, rfl, r60, hb⟩
                    dsimp only
                    replace r60 := r60.mono (Nat.zero_le _)
                    replace hB := hB.trans (hb.mono hB.size)
                    replace c28 := c28.below hb
                    replace c42 := c42.below hb
                    replace hk13 := hk13.keep hb
                    replace cNx := cNx.below hb
                    replace cNy := cNy.below hb
                    replace hR := hR.trans (hb.mono hR.size)
                    replace r52 := r52.below hb
                    replace r53 := r53.below hb
                    replace r55 := r55.below hb
                    replace hk14 := hk14.keep hb
                    replace r57 := r57.below hb
                    replace r59 := r59.below hb
                    clear hb
                    refine hK.out _ _ hk13 (fun hS => ?_)
                    refine wpAnyH_ready (rs := [9]) (by kernel_rfl) (by simp) ?_
                    refine AllReadyH.cons rfl (fun K hK => ?_) AllReadyH.nil
                    rw [if_pos (by rfl)]
                    simp only [List.getElem_toArray, List.getElem_cons_zero, List.getElem_cons_succ]
                    go_simp
                    refine (point_is r60.at_ (Sp.plus_is HI55.out HI59.out (eMul_on eB_on _) (eMul_on (eNeg_on OA.out) _)) (tP.below hB)).mono ?_; rintro e_ w20 ⟨v61, rfl, hn, hb⟩
                    dsimp only
                    obtain ⟨v61x, v61y, rfl, h61x, h61y, _⟩ := hn
                    have off_r61x_13 := NatRes.off_new h61x hk13.lt
                    have off_r61x_14 := NatRes.off_new h61x hk14.lt
                    have off_r61y_13 := NatRes.off_new h61y hk13.lt
                    have off_r61y_14 := NatRes.off_new h61y hk14.lt
                    have r61x := h61x.mono (Nat.zero_le _)
                    have r61y := h61y.mono (Nat.zero_le _)
                    clear h61x h61y
                    replace hB := hB.trans (hb.mono hB.size)
                    replace c28 := c28.below hb
                    replace c42 := c42.below hb
                    replace hk13 := hk13.keep hb
                    replace cNx := cNx.below hb
                    replace cNy := cNy.below hb
                    replace hR := hR.trans (hb.mono hR.size)
                    replace r52 := r52.below hb
                    replace r53 := r53.below hb
                    replace r55 := r55.below hb
                    replace hk14 := hk14.keep hb
                    replace r57 := r57.below hb
                    replace r59 := r59.below hb
                    replace r60 := r60.below hb
                    clear hb
                    refine hK.out _ _ hk13 (fun hS => ?_)
                    refine wpAnyH_ready (rs := [11]) (by kernel_rfl) (by simp) ?_
                    refine AllReadyH.cons rfl (fun K hK => ?_) AllReadyH.nil
                    rw [if_pos (by rfl)]
                    simp only [List.getElem_toArray, List.getElem_cons_zero, List.getElem_cons_succ]
                    refine wp_store_agg 29 _ _ rfl g14 29 [(.slice none 0 0), (.slice none 0 0), (.bool false)] [v61x, v61y, .bool false] rfl rfl hk14 size_pt (by intro v_ hv_; simp only [List.mem_cons, List.not_mem_nil, or_false] at hv_; rcases hv_ with rfl | rfl | rfl <;> first | rfl | exact r61x.fp.one_cell | exact r61y.fp.one_cell) rfl ?_
                    intro w21 hn hg
                    replace hB := hB.grown hg hB.size (by intro k_ hk_; cases hk_; exact HG14.out)
                    clear c28
                    clear c42
                    replace hk13 := hk13.grown hg (fun e_ => NE13_14.out (Option.some.inj e_))
                    clear cNx
                    clear cNy
                    replace hR := hR.grown hg hR.size (by intro k_ hk_; cases hk_; exact HR_.out)
                    clear r52
                    clear r53
                    clear r55
                    replace hk14 := hn
                    clear r57
                    clear r59
                    clear r60
                    replace r61x := r61x.off off_r61x_14 hg
                    replace r61y := r61y.off off_r61y_14 hg
                    clear hn hg
                    refine hK.out _ _ hk13 (fun hS => ?_)
                    refine wpAnyH_done (by kernel_rfl) ?_ _
                    clear hS
                    go_wp2_with fail
                    go_meet
                    exact ⟨_, _, _, rfl, hk14, r61x.fp, r61y.fp, HR_.out, hR⟩
                · skip
                  refine wp_alloc_agg 29 rfl [(.slice none 0 0), (.slice none 0 0), (.bool false)] 3 (by kernel_rfl) ?_
                  intro w15 hk14 hb
                  have hz_ := hB.size
                  have hR0_ := hR.size
                  have lt13_ := hk13.lt
                  replace hB := hB.trans (hb.mono hB.size)
                  replace c28 := c28.below hb
                  replace c42 := c42.below hb
                  replace hk13 := hk13.keep hb
                  replace cNx := cNx.below hb
                  replace cNy := cNy.below hb
                  replace hR := hR.trans (hb.mono hR.size)
                  replace r52 := r52.below hb
                  replace r53 := r53.below hb
                  clear hb
                  obtain ⟨g14, hg_⟩ : ∃ g, g = w14.heap.size := ⟨_, rfl⟩
                  rw [← hg_] at hk14 ⊢
                  have HG14 : Hid (w.heap.size ≤ g14) := Lib.hid (by rw [hg_]; exact hz_)
                  have NE13_14 : Hid (g13 ≠ g14) := Lib.hid (by rw [hg_]; exact Nat.ne_of_lt lt13_)
                  have HR_ : Hid (w11.heap.size ≤ g14) := Lib.hid (by rw [hg_]; exact hR0_)
                  clear hR0_
                  clear hg_ hz_ lt13_
                  refine hK.out _ _ hk13 (fun hS => ?_)
                  refine wpAnyH_ready (rs := [3]) (by kernel_rfl) (by simp) ?_
                  refine AllReadyH.cons rfl (fun K hK => ?_) AllReadyH.nil
                  rw [if_pos (by rfl)]
                  simp only [List.getElem_toArray, List.getElem_cons_zero, List.getElem_cons_succ]
                  go_simp
                  refine (times_c r53.at_ (Sp.of_is eB) eB_on c28.num (tP.below hB) (tD.below hB)).mono ?_; rintro e_ w16 ⟨v55, sp55, rfl, r55, his, hb⟩
                  dsimp only
                  have HI55 := Lib.hid his
                  clear his
                  replace r55 := r55.mono (Nat.zero_le _)
                  replace hB := hB.trans (hb.mono hB.size)
                  replace c28 := c28.below hb
                  replace c42 := c42.below hb
                  replace hk13 := hk13.keep hb
                  replace cNx := cNx.below hb
                  replace cNy := cNy.below hb
                  replace hR := hR.trans (hb.mono hR.size)
                  replace r52 := r52.below hb
                  replace r53 := r53.below hb
                  replace hk14 := hk14.keep hb
                  clear hb
                  refine hK.out _ _ hk13 (fun hS => ?_)
                  refine wpAnyH_ready (rs := [5]) (by kernel_rfl) (by simp) ?_
                  refine AllReadyH.cons rfl (fun K hK => ?_) AllReadyH.nil
                  rw [if_pos (by rfl)]
                  simp only [List.getElem_toArray, List.getElem_cons_zero, List.getElem_cons_succ]
                  go_simp
                  refine (spotOf_c (P := eNeg A) ⟨_, _, rfl, cNx.num, cNy.num⟩ (tP.below hB)).mono ?_; rintro e_ w17 ⟨v57, rfl, r57, hb⟩
                  dsimp only
                  replace r57 := r57.mono (Nat.zero_le _)
                  replace hB := hB.trans (hb.mono hB.size)
                  replace c28 := c28.below hb
                  replace c42 := c42.below hb
                  replace hk13 := hk13.keep hb
                  replace cNx := cNx.below hb
                  replace cNy := cNy.below hb
                  replace hR := hR.trans (hb.mono hR.size)
                  replace r52 := r52.below hb
                  replace r53 := r53.below hb
                  replace hk14 := hk14.keep hb
                  replace r55 := r55.below hb
                  clear hb
                  refine hK.out _ _ hk13 (fun hS => ?_)
                  refine wpAnyH_ready (rs := [7]) (by kernel_rfl) (by simp) ?_
                  refine AllReadyH.cons rfl (fun K hK => ?_) AllReadyH.nil
                  rw [if_pos (by rfl)]
                  simp only [List.getElem_toArray, List.getElem_cons_zero, List.getElem_cons_succ]
                  go_simp
                  refine (times_c r57.at_ (Sp.of_is (eNeg A)) (eNeg_on OA.out) c42.num (tP.below hB) (tD.below hB)).mono ?_; rintro e_ w18 ⟨v59, sp59, rfl, r59, his, hb⟩
                  dsimp only
                  have HI59 := Lib.hid his
                  clear his
                  replace r59 := r59.mono (Nat.zero_le _)
                  replace hB := hB.trans (hb.mono hB.size)
                  replace c28 := c28.below hb
                  replace c42 := c42.below hb
                  replace hk13 := hk13.keep hb
                  replace cNx := cNx.below hb
                  replace cNy := cNy.below hb
                  replace hR := hR.trans (hb.mono hR.size)
                  replace r52 := r52.below hb
                  replace r53 := r53.below hb
                  replace hk14 := hk14.keep hb
                  replace r55 := r55.below hb
                  replace r57 := r57.below hb
                  clear hb
                  refine hK.out _ _ hk13 (fun hS => ?_)
                  refine wpAnyH_ready (rs := [8]) (by kernel_rfl) (by simp) ?_
                  refine AllReadyH.cons rfl (fun K hK => ?_) AllReadyH.nil
                  rw [if_pos (by rfl)]
                  simp only [List.getElem_toArray, List.getElem_cons_zero, List.getElem_cons_succ]
                  go_simp
                  refine (plus_c r55.at_ r59.at_ (tP.below hB) (tD.below hB)).mono ?_; rintro e_ w19 ⟨v60, rfl, r60, hb⟩
                  dsimp only
                  replace r60 := r60.mono (Nat.zero_le _)
                  replace hB := hB.trans (hb.mono hB.size)
                  replace c28 := c28.below hb
                  replace c42 := c42.below hb
                  replace hk13 := hk13.keep hb
                  replace cNx := cNx.below hb
                  replace cNy := cNy.below hb
                  replace hR := hR.trans (hb.mono hR.size)
                  replace r52 := r52.below hb
                  replace r53 := r53.below hb
                  replace hk14 := hk14.keep hb
                  replace r55 := r55.below hb
                  replace r57 := r57.below hb
                  replace r59 := r59.below hb
                  clear hb
                  refine hK.out _ _ hk13 (fun hS => ?_)
                  refine wpAnyH_ready (rs := [9]) (by kernel_rfl) (by simp) ?_
                  refine AllReadyH.cons rfl (fun K hK => ?_) AllReadyH.nil
                  rw [if_pos (by rfl)]
                  simp only [List.getElem_toArray, List.getElem_cons_zero, List.getElem_cons_succ]
                  go_simp
                  refine (point_is r60.at_ (Sp.plus_is HI55.out HI59.out (eMul_on eB_on _) (eMul_on (eNeg_on OA.out) _)) (tP.below hB)).mono ?_; rintro e_ w20 ⟨v61, rfl, hn, hb⟩
                  dsimp only
                  obtain ⟨v61x, v61y, rfl, h61x, h61y, _⟩ := hn
                  have off_r61x_13 := NatRes.off_new h61x hk13.lt
                  have off_r61x_14 := NatRes.off_new h61x hk14.lt
                  have off_r61y_13 := NatRes.off_new h61y hk13.lt
                  have off_r61y_14 := NatRes.off_new h61y hk14.lt
                  have r61x := h61x.mono (Nat.zero_le _)
                  have r61y := h61y.mono (Nat.zero_le _)
                  clear h61x h61y
                  replace hB := hB.trans (hb.mono hB.size)
                  replace c28 := c28.below hb
                  replace c42 := c42.below hb
                  replace hk13 := hk13.keep hb
                  replace cNx := cNx.below hb
                  replace cNy := cNy.below hb
                  replace hR := hR.trans (hb.mono hR.size)
                  replace r52 := r52.below hb
                  replace r53 := r53.below hb
                  replace hk14 := hk14.keep hb
                  replace r55 := r55.below hb
                  replace r57 := r57.below hb
                  replace r59 := r59.below hb
                  replace r60 := r60.below hb
                  clear hb
                  refine hK.out _ _ hk13 (fun hS => ?_)
                  refine wpAnyH_ready (rs := [11]) (by kernel_rfl) (by simp) ?_
                  refine AllReadyH.cons rfl (fun K hK => ?_) AllReadyH.nil
                  rw [if_pos (by rfl)]
                  simp only [List.getElem_toArray, List.getElem_cons_zero, List.getElem_cons_succ]
                  refine wp_store_agg 29 _ _ rfl g14 29 [(.slice none 0 0), (.slice none 0 0), (.bool false)] [v61x, v61y, .bool false] rfl rfl hk14 size_pt (by intro v_ hv_; simp only [List.mem_cons, List.not_mem_nil, or_false] at hv_; rcases hv_ with rfl | rfl | rfl <;> first | rfl | exact r61x.fp.one_cell | exact r61y.fp.one_cell) rfl ?_
                  intro w21 hn hg
                  replace hB := hB.grown hg hB.size (by intro k_ hk_; cases hk_; exact HG14.out)
                  clear c28
                  clear c42
                  replace hk13 := hk13.grown hg (fun e_ => NE13_14.out (Option.some.inj e_))
                  clear cNx
                  clear cNy
                  replace hR := hR.grown hg hR.size (by intro k_ hk_; cases hk_; exact HR_.out)
                  clear r52
                  clear r53
                  replace hk14 := hn
                  clear r55
                  clear r57
                  clear r59
                  clear r60
                  replace r61x := r61x.off off_r61x_14 hg
                  replace r61y := r61y.off off_r61y_14 hg
                  clear hn hg
                  refine hK.out _ _ hk13 (fun hS => ?_)
                  refine wpAnyH_done (by kernel_rfl) ?_ _
                  clear hS
                  go_wp2_with fail
                  go_meet
                  exact ⟨_, _, _, rfl, hk14, r61x.fp, r61y.fp, HR_.out, hR⟩
              · skip
                refine wp_alloc_agg 29 rfl [(.slice none 0 0), (.slice none 0 0), (.bool false)] 3 (by kernel_rfl) ?_
                intro w14 hk14 hb
                have hz_ := hB.size
                have hR0_ := hR.size
                have lt13_ := hk13.lt
                replace hB := hB.trans (hb.mono hB.size)
                replace c28 := c28.below hb
                replace c42 := c42.below hb
                replace hk13 := hk13.keep hb
                replace cNx := cNx.below hb
                replace cNy := cNy.below hb
                replace hR := hR.trans (hb.mono hR.size)
                replace r52 := r52.below hb
                clear hb
                obtain ⟨g14, hg_⟩ : ∃ g, g = w13.heap.size := ⟨_, rfl⟩
                rw [← hg_] at hk14 ⊢
                have HG14 : Hid (w.heap.size ≤ g14) := Lib.hid (by rw [hg_]; exact hz_)
                have NE13_14 : Hid (g13 ≠ g14) := Lib.hid (by rw [hg_]; exact Nat.ne_of_lt lt13_)
                have HR_ : Hid (w11.heap.size ≤ g14) := Lib.hid (by rw [hg_]; exact hR0_)
                clear hR0_
                clear hg_ hz_ lt13_
                refine hK.out _ _ hk13 (fun hS => ?_)
                refine wpAnyH_ready (rs := [1]) (by kernel_rfl) (by simp) ?_
                refine AllReadyH.cons rfl (fun K hK => ?_) AllReadyH.nil
                rw [if_pos (by rfl)]
                simp only [List.getElem_toArray, List.getElem_cons_zero, List.getElem_cons_succ]
                go_simp
                refine (spotOf_c (P := eB) r52.at_.in_ (tP.below hB)).mono ?_; rintro e_ w15 ⟨v53, rfl, r53, hb⟩
                dsimp only
                replace r53 := r53.mono (Nat.zero_le _)
                replace hB := hB.trans (hb.mono hB.size)
                replace c28 := c28.below hb
                replace c42 := c42.below hb
                replace hk13 := hk13.keep hb
                replace cNx := cNx.below hb
                replace cNy := cNy.below hb
                replace hR := hR.trans (hb.mono hR.size)
                replace r52 := r52.below hb
                replace hk14 := hk14.keep hb
                clear hb
                refine hK.out _ _ hk13 (fun hS => ?_)
                refine wpAnyH_ready (rs := [3]) (by kernel_rfl) (by simp) ?_
                refine AllReadyH.cons rfl (fun K hK => ?_) AllReadyH.nil
                rw [if_pos (by rfl)]
                simp only [List.getElem_toArray, List.getElem_cons_zero, List.getElem_cons_succ]
                go_simp
                refine (times_c r53.at_ (Sp.of_is eB) eB_on c28.num (tP.below hB) (tD.below hB)).mono ?_; rintro e_ w16 ⟨v55, sp55, rfl, r55, his, hb⟩
                dsimp only
                have HI55 := Lib.hid his
                clear his
                replace r55 := r55.mono (Nat.zero_le _)
                replace hB := hB.trans (hb.mono hB.size)
                replace c28 := c28.below hb
                replace c42 := c42.below hb
                replace hk13 := hk13.keep hb
                replace cNx := cNx.below hb
                replace cNy := cNy.below hb
                replace hR := hR.trans (hb.mono hR.size)
                replace r52 := r52.below hb
                replace hk14 := hk14.keep hb
                replace r53 := r53.below hb
                clear hb
                refine hK.out _ _ hk13 (fun hS => ?_)
                refine wpAnyH_ready (rs := [5]) (by kernel_rfl) (by simp) ?_
                refine AllReadyH.cons rfl (fun K hK => ?_) AllReadyH.nil
                rw [if_pos (by rfl)]
                simp only [List.getElem_toArray, List.getElem_cons_zero, List.getElem_cons_succ]
                go_simp
                refine (spotOf_c (P := eNeg A) ⟨_, _, rfl, cNx.num, cNy.num⟩ (tP.below hB)).mono ?_; rintro e_ w17 ⟨v57, rfl, r57, hb⟩
                dsimp only
                replace r57 := r57.mono (Nat.zero_le _)
                replace hB := hB.trans (hb.mono hB.size)
                replace c28 := c28.below hb
                replace c42 := c42.below hb
                replace hk13 := hk13.keep hb
                replace cNx := cNx.below hb
                replace cNy := cNy.below hb
                replace hR := hR.trans (hb.mono hR.size)
                replace r52 := r52.below hb
                replace hk14 := hk14.keep hb
                replace r53 := r53.below hb
                replace r55 := r55.below hb
                clear hb
                refine hK.out _ _ hk13 (fun hS => ?_)
                refine wpAnyH_ready (rs := [7]) (by kernel_rfl) (by simp) ?_
                refine AllReadyH.cons rfl (fun K hK => ?_) AllReadyH.nil
                rw [if_pos (by rfl)]
                simp only [List.getElem_toArray, List.getElem_cons_zero, List.getElem_cons_succ]
                go_simp
                refine (times_c r57.at_ (Sp.of_is (eNeg A)) (eNeg_on OA.out) c42.num (tP.below hB) (tD.below hB)).mono ?_; rintro e_ w18 ⟨v59, sp59, rfl, r59, his, hb⟩
                dsimp only
                have HI59 := Lib.hid his
                clear his
                replace r59 := r59.mono (Nat.zero_le _)
                replace hB := hB.trans (hb.mono hB.size)
                replace c28 := c28.below hb
                replace c42 := c42.below hb
                replace hk13 := hk13.keep hb
                replace cNx := cNx.below hb
                replace cNy := cNy.below hb
                replace hR := hR.trans (hb.mono hR.size)
                replace r52 := r52.below hb
                replace hk14 := hk14.keep hb
                replace r53 := r53.below hb
                replace r55 := r55.below hb
                replace r57 := r57.below hb
                clear hb
                refine hK.out _ _ hk13 (fun hS => ?_)
                refine wpAnyH_ready (rs := [8]) (by kernel_rfl) (by simp) ?_
                refine AllReadyH.cons rfl (fun K hK => ?_) AllReadyH.nil
                rw [if_pos (by rfl)]
                simp only [List.getElem_toArray, List.getElem_cons_zero, List.getElem_cons_succ]
                go_simp
                refine (plus_c r55.at_ r59.at_ (tP.below hB) (tD.below hB)).mono ?_; rintro e_ w19 ⟨v60, rfl, r60, hb⟩
                dsimp only
                replace r60 := r60.mono (Nat.zero_le _)
                replace hB := hB.trans (hb.mono hB.size)
                replace c28 := c28.below hb
                replace c42 := c42.below hb
                replace hk13 := hk13.keep hb
                replace cNx := cNx.below hb
                replace cNy := cNy.below hb
                replace hR := hR.trans (hb.mono hR.size)
                replace r52 := r52.below hb
                replace hk14 := hk14.keep hb
                replace r53 := r53.below hb
                replace r55 := r55.below hb
                replace r57 := r57.below hb
                replace r59 := r59.below hb
                clear hb
                refine hK.out _ _ hk13 (fun hS => ?_)
                refine wpAnyH_ready (rs := [9]) (by kernel_rfl) (by simp) ?_
                refine AllReadyH.cons rfl (fun K hK => ?_) AllReadyH.nil
                rw [if_pos (by rfl)]
                simp only [List.getElem_toArray, List.getElem_cons_zero, List.getElem_cons_succ]
                go_simp
                refine (point_is r60.at_ (Sp.plus_is HI55.out HI59.out (eMul_on eB_on _) (eMul_on (eNeg_on OA.out) _)) (tP.below hB)).mono ?_; rintro e_ w20 ⟨v61, rfl, hn, hb⟩
                dsimp only
                obtain ⟨v61x, v61y, rfl, h61x, h61y, _⟩ := hn
                have off_r61x_13 := NatRes.off_new h61x hk13.lt
                have off_r61x_14 := NatRes.off_new h61x hk14.lt
                have off_r61y_13 := NatRes.off_new h61y hk13.lt
                have off_r61y_14 := NatRes.off_new h61y hk14.lt
                have r61x := h61x.mono (Nat.zero_le _)
                have r61y := h61y.mono (Nat.zero_le _)
                clear h61x h61y
                replace hB := hB.trans (hb.mono hB.size)
                replace c28 := c28.below hb
                replace c42 := c42.below hb
                replace hk13 := hk13.keep hb
                replace cNx := cNx.below hb
                replace cNy := cNy.below hb
                replace hR := hR.trans (hb.mono hR.size)
                replace r52 := r52.below hb
                replace hk14 := hk14.keep hb
                replace r53 := r53.below hb
                replace r55 := r55.below hb
                replace r57 := r57.below hb
                replace r59 := r59.below hb
                replace r60 := r60.below hb
                clear hb
                refine hK.out _ _ hk13 (fun hS => ?_)
                refine wpAnyH_ready (rs := [11]) (by kernel_rfl) (by simp) ?_
                refine AllReadyH.cons rfl (fun K hK => ?_) AllReadyH.nil
                rw [if_pos (by rfl)]
                simp only [List.getElem_toArray, List.getElem_cons_zero, List.getElem_cons_succ]
                refine wp_store_agg 29 _ _ rfl g14 29 [(.slice none 0 0), (.slice none 0 0), (.bool false)] [v61x, v61y, .bool false] rfl rfl hk14 size_pt (by intro v_ hv_; simp only [List.mem_cons, List.not_mem_nil, or_false] at hv_; rcases hv_ with rfl | rfl | rfl <;> first | rfl | exact r61x.fp.one_cell | exact r61y.fp.one_cell) rfl ?_
                intro w21 hn hg
                replace hB := hB.grown hg hB.size (by intro k_ hk_; cases hk_; exact HG14.out)
                clear c28
                clear c42
                replace hk13 := hk13.grown hg (fun e_ => NE13_14.out (Option.some.inj e_))
                clear cNx
                clear cNy
                replace hR := hR.grown hg hR.size (by intro k_ hk_; cases hk_; exact HR_.out)
                clear r52
                replace hk14 := hn
                clear r53
                clear r55
                clear r57
                clear r59
                clear r60
                replace r61x := r61x.off off_r61x_14 hg
                replace r61y := r61y.off off_r61y_14 hg
                clear hn hg
                refine hK.out _ _ hk13 (fun hS => ?_)
                refine wpAnyH_done (by kernel_rfl) ?_ _
                clear hS
                go_wp2_with fail
                go_meet
                exact ⟨_, _, _, rfl, hk14, r61x.fp, r61y.fp, HR_.out, hR⟩
            · skip
              refine wp_alloc_agg 29 rfl [(.slice none 0 0), (.slice none 0 0), (.bool false)] 3 (by kernel_rfl) ?_
              intro w13 hk14 hb
              have hz_ := hB.size
              have hR0_ := hR.size
              have lt13_ := hk13.lt
              replace hB := hB.trans (hb.mono hB.size)
              replace c28 := c28.below hb
              replace c42 := c42.below hb
              replace hk13 := hk13.keep hb
              replace cNx := cNx.below hb
              replace cNy := cNy.below hb
              replace hR := hR.trans (hb.mono hR.size)
              clear hb
              obtain ⟨g14, hg_⟩ : ∃ g, g = w12.heap.size := ⟨_, rfl⟩
              rw [← hg_] at hk14 ⊢
              have HG14 : Hid (w.heap.size ≤ g14) := Lib.hid (by rw [hg_]; exact hz_)
              have NE13_14 : Hid (g13 ≠ g14) := Lib.hid (by rw [hg_]; exact Nat.ne_of_lt lt13_)
              have HR_ : Hid (w11.heap.size ≤ g14) := Lib.hid (by rw [hg_]; exact hR0_)
              clear hR0_
              clear hg_ hz_ lt13_
              refine hK.out _ _ hk13 (fun hS => ?_)
              refine wpAnyH_ready (rs := [0]) (by kernel_rfl) (by simp) ?_
              refine AllReadyH.cons rfl (fun K hK => ?_) AllReadyH.nil
              rw [if_pos (by rfl)]
              simp only [List.getElem_toArray, List.getElem_cons_zero, List.getElem_cons_succ]
              go_simp
              refine (base_c w13 (tB.below hB)).mono ?_; rintro e_ w14 ⟨v52, rfl, r52, hb⟩
              dsimp only
              replace r52 := r52.mono (Nat.zero_le _)
              replace hB := hB.trans (hb.mono hB.size)
              replace c28 := c28.below hb
              replace c42 := c42.below hb
              replace hk13 := hk13.keep hb
              replace cNx := cNx.below hb
              replace cNy := cNy.below hb
              replace hR := hR.trans (hb.mono hR.size)
              replace hk14 := hk14.keep hb
              clear hb
              refine hK.out _ _ hk13 (fun hS => ?_)
              refine wpAnyH_ready (rs := [1]) (by kernel_rfl) (by simp) ?_
              refine AllReadyH.cons rfl (fun K hK => ?_) AllReadyH.nil
              rw [if_pos (by rfl)]
              simp only [List.getElem_toArray, List.getElem_cons_zero, List.getElem_cons_succ]
              go_simp
              refine (spotOf_c (P := eB) r52.at_.in_ (tP.below hB)).mono ?_; rintro e_ w15 ⟨v53, rfl, r53, hb⟩
              dsimp only
              replace r53 := r53.mono (Nat.zero_le _)
              replace hB := hB.trans (hb.mono hB.size)
              replace c28 := c28.below hb
              replace c42 := c42.below hb
              replace hk13 := hk13.keep hb
              replace cNx := cNx.below hb
              replace cNy := cNy.below hb
              replace hR := hR.trans (hb.mono hR.size)
              replace hk14 := hk14.keep hb
              replace r52 := r52.below hb
              clear hb
              refine hK.out _ _ hk13 (fun hS => ?_)
              refine wpAnyH_ready (rs := [3]) (by kernel_rfl) (by simp) ?_
              refine AllReadyH.cons rfl (fun K hK => ?_) AllReadyH.nil
              rw [if_pos (by rfl)]
              simp only [List.getElem_toArray, List.getElem_cons_zero, List.getElem_cons_succ]
              go_simp
              refine (times_c r53.at_ (Sp.of_is eB) eB_on c28.num (tP.below hB) (tD.below hB)).mono ?_; rintro e_ w16 ⟨v55, sp55, rfl, r55, his, hb⟩
              dsimp only
              have HI55 := Lib.hid his
              clear his
              replace r55 := r55.mono (Nat.zero_le _)
              replace hB := hB.trans (hb.mono hB.size)
              replace c28 := c28.below hb
              replace c42 := c42.below hb
              replace hk13 := hk13.keep hb
              replace cNx := cNx.below hb
              replace cNy := cNy.below hb
              replace hR := hR.trans (hb.mono hR.size)
              replace hk14 := hk14.keep hb
              replace r52 := r52.below hb
              replace r53 := r53.below hb
              clear hb
              refine hK.out _ _ hk13 (fun hS => ?_)
              refine wpAnyH_ready (rs := [5]) (by kernel_rfl) (by simp) ?_
              refine AllReadyH.cons rfl (fun K hK => ?_) AllReadyH.nil
              rw [if_pos (by rfl)]
              simp only [List.getElem_toArray, List.getElem_cons_zero, List.getElem_cons_succ]
              go_simp
              refine (spotOf_c (P := eNeg A) ⟨_, _, rfl, cNx.num, cNy.num⟩ (tP.below hB)).mono ?_; rintro e_ w17 ⟨v57, rfl, r57, hb⟩
              dsimp only
              replace r57 := r57.mono (Nat.zero_le _)
              replace hB := hB.trans (hb.mono hB.size)
              replace c28 := c28.below hb
              replace c42 := c42.below hb
              replace hk13 := hk13.keep hb
              replace cNx := cNx.below hb
              replace cNy := cNy.below hb
              replace hR := hR.trans (hb.mono hR.size)
              replace hk14 := hk14.keep hb
              replace r52 := r52.below hb
              replace r53 := r53.below hb
              replace r55 := r55.below hb
              clear hb
              refine hK.out _ _ hk13 (fun hS => ?_)
              refine wpAnyH_ready (rs := [7]) (by kernel_rfl) (by simp) ?_
              refine AllReadyH.cons rfl (fun K hK => ?_) AllReadyH.nil
              rw [if_pos (by rfl)]
              simp only [List.getElem_toArray, List.getElem_cons_zero, List.getElem_cons_succ]
              go_simp
              refine (times_c r57.at_ (Sp.of_is (eNeg A)) (eNeg_on OA.out) c42.num (tP.below hB) (tD.below hB)).mono ?_; rintro e_ w18 ⟨v59, sp59, rfl, r59, his, hb⟩
              dsimp only
              have HI59 := Lib.hid his
              clear his
              replace r59 := r59.mono (Nat.zero_le _)
              replace hB := hB.trans (hb.mono hB.size)
              replace c28 := c28.below hb
              replace c42 := c42.below hb
              replace hk13 := hk13.keep hb
              replace cNx := cNx.below hb
              replace cNy := cNy.below hb
              replace hR := hR.trans (hb.mono hR.size)
              replace hk14 := hk14.keep hb
              replace r52 := r52.below hb
              replace r53 := r53.below hb
              replace r55 := r55.below hb
              replace r57 := r57.below hb
              clear hb
              refine hK.out _ _ hk13 (fun hS => ?_)
              refine wpAnyH_ready (rs := [8]) (by kernel_rfl) (by simp) ?_
              refine AllReadyH.cons rfl (fun K hK => ?_) AllReadyH.nil
              rw [if_pos (by rfl)]
              simp only [List.getElem_toArray, List.getElem_cons_zero, List.getElem_cons_succ]
              go_simp
              refine (plus_c r55.at_ r59.at_ (tP.below hB) (tD.below hB)).mono ?_; rintro e_ w19 ⟨v60, rfl, r60, hb⟩
              dsimp only
              replace r60 := r60.mono (Nat.zero_le _)
              replace hB := hB.trans (hb.mono hB.size)
              replace c28 := c28.below hb
              replace c42 := c42.below hb
              replace hk13 := hk13.keep hb
              replace cNx := cNx.below hb
              replace cNy := cNy.below hb
              replace hR := hR.trans (hb.mono hR.size)
              replace hk14 := hk14.keep hb
              replace r52 := r52.below hb
              replace r53 := r53.below hb
              replace r55 := r55.below hb
              replace r57 := r57.below hb
              replace r59 := r59.below hb
              clear hb
              refine hK.out _ _ hk13 (fun hS => ?_)
              refine wpAnyH_ready (rs := [9]) (by kernel_rfl) (by simp) ?_
              refine AllReadyH.cons rfl (fun K hK => ?_) AllReadyH.nil
              rw [if_pos (by rfl)]
              simp only [List.getElem_toArray, List.getElem_cons_zero, List.getElem_cons_succ]
              go_simp
              refine (point_is r60.at_ (Sp.plus_is HI55.out HI59.out (eMul_on eB_on _) (eMul_on (eNeg_on OA.out) _)) (tP.below hB)).mono ?_; rintro e_ w20 ⟨v61, rfl, hn, hb⟩
              dsimp only
              obtain ⟨v61x, v61y, rfl, h61x, h61y, _⟩ := hn
              have off_r61x_13 := NatRes.off_new h61x hk13.lt
              have off_r61x_14 := NatRes.off_new h61x hk14.lt
              have off_r61y_13 := NatRes.off_new h61y hk13.lt
              have off_r61y_14 := NatRes.off_new h61y hk14.lt
              have r61x := h61x.mono (Nat.zero_le _)
              have r61y := h61y.mono (Nat.zero_le _)
              clear h61x h61y
              replace hB := hB.trans (hb.mono hB.size)
              replace c28 := c28.below hb
              replace c42 := c42.below hb
              replace hk13 := hk13.keep hb
              replace cNx := cNx.below hb
              replace cNy := cNy.below hb
              replace hR := hR.trans (hb.mono hR.size)
              replace hk14 := hk14.keep hb
              replace r52 := r52.below hb
              replace r53 := r53.below hb
              replace r55 := r55.below hb
              replace r57 := r57.below hb
              replace r59 := r59.below hb
              replace r60 := r60.below hb
              clear hb
              refine hK.out _ _ hk13 (fun hS => ?_)
              refine wpAnyH_ready (rs := [11]) (by kernel_rfl) (by simp) ?_
              refine AllReadyH.cons rfl (fun K hK => ?_) AllReadyH.nil
              rw [if_pos (by rfl)]
              simp only [List.getElem_toArray, List.getElem_cons_zero, List.getElem_cons_succ]
              refine wp_store_agg 29 _ _ rfl g14 29 [(.slice none 0 0), (.slice none 0 0), (.bool false)] [v61x, v61y, .bool false] rfl rfl hk14 size_pt (by intro v_ hv_; simp only [List.mem_cons, List.not_mem_nil, or_false] at hv_; rcases hv_ with rfl | rfl | rfl <;> first | rfl | exact r61x.fp.one_cell | exact r61y.fp.one_cell) rfl ?_
              intro w21 hn hg
              replace hB := hB.grown hg hB.size (by intro k_ hk_; cases hk_; exact HG14.out)
              clear c28
              clear c42
              replace hk13 := hk13.grown hg (fun e_ => NE13_14.out (Option.some.inj e_))
              clear cNx
              clear cNy
              replace hR := hR.grown hg hR.size (by intro k_ hk_; cases hk_; exact HR_.out)
              replace hk14 := hn
              clear r52
              clear r53
              clear r55
              clear r57
              clear r59
              clear r60
              replace r61x := r61x.off off_r61x_14 hg
              replace r61y := r61y.off off_r61y_14 hg
              clear hn hg
              refine hK.out _ _ hk13 (fun hS => ?_)
              refine wpAnyH_done (by kernel_rfl) ?_ _
              clear hS
              go_wp2_with fail
              go_meet
              exact ⟨_, _, _, rfl, hk14, r61x.fp, r61y.fp, HR_.out, hR⟩
          case rest =>
            obtain ⟨g14, vRx, vRy, rfl, hk14, cRx, cRy, hgx_, hb⟩ := hcut
            have HG14 : Hid (w.heap.size ≤ g14) := Lib.hid (Nat.le_trans hB.size hgx_)
            obtain ⟨w12, rfl⟩ : ∃ x, x = wc := ⟨_, rfl⟩
            replace hB := hB.trans (hb.mono hB.size)
            replace c28 := c28.below hb
            replace c42 := c42.below hb
            replace hk13 := hk13.keep hb
            replace cNx := cNx.below hb
            replace cNy := cNy.below hb
            clear hb hgx_ hR
            clear hk13
            clear cNx
            clear cNy
            clear c28
            clear c42
            have onR : OnC (rOf13 A S K) := eAdd_on (eMul_on eB_on _) (eMul_on (eNeg_on OA.out) _)
            obtain ⟨Q, hQ⟩ : ∃ Q, Q = rOf13 A S K := ⟨_, rfl⟩
            rw [← hQ] at onR cRx cRy
            have HQ := Lib.hid hQ
            clear hQ
            have ec := enc_ok (Q := Q) ⟨_, _, rfl, cRx.num, cRy.num⟩ onR (tP.below hB) (tD.below hB)
            go_wp2_with (refine wpList_load_agg rfl 29 _ rfl g14 rfl _ [vRx, vRy, .bool false] _ hk14 Tryd.underlying29 rfl size_pt ?_)
            refine ec.mono ?_; rintro e_ w13 ⟨v64, rfl, hn, hb⟩
            obtain ⟨a64, p64, rfl, s64⟩ := hn.sl
            clear ec hn onR
            replace hB := hB.trans (hb.mono hB.size)
            replace hk14 := hk14.keep hb
            replace cRx := cRx.below hb
            replace cRy := cRy.below hb
            clear hb
            have be := BEqual_c a64 as_ p64 cs (encB Q) (sig.take 32) w13 s64 (std.below hB) (by unfold encB; exact (beN_u8 _ _).reverse (by omega)) ut
            rw [HL2.out] at be
            by_cases heq : encB Q = sig.take 32
            · skip
              rw [show decide (encB Q = sig.take 32) = true from decide_eq_true heq] at be
              have HE : Hid (code = 0) := Lib.hid (by rw [HC1.out, if_pos ⟨H64.out, by rw [← HS.out]; exact HSL.out, by rw [← HS.out, ← HK.out]; show encB (rOf13 A S K) = _; rw [← HQ.out]; exact heq⟩])
              clear heq
              go_wp2_with fail
              refine be.mono ?_; rintro e_ w' ⟨rfl, rfl⟩
              clear be
              go_wp2_with fail
              go_ret
              exact ⟨by rw [HE.out]; first | done | rfl, hB⟩
            · skip
              rw [show decide (encB Q = sig.take 32) = false from decide_eq_false heq] at be
              have HE : Hid (code = 91) := Lib.hid (by rw [HC1.out, if_neg]; rintro ⟨_, _, h_⟩; rw [← HS.out, ← HK.out] at h_; exact heq (by rw [HQ.out]; exact h_))
              clear heq
              go_wp2_with fail
              refine be.mono ?_; rintro e_ w' ⟨rfl, rfl⟩
              clear be
              go_wp2_with fail
              go_ret
              exact ⟨by rw [HE.out]; first | done | rfl, hB⟩
      · skip
        have HE : Hid (code = 91) := Lib.hid (by rw [HC1.out, if_neg]; rintro ⟨_, h_, _⟩; rw [← HS.out] at h_; exact hsl h_)
        obtain ⟨cj, hcj⟩ : ∃ c, c = cmpI S eL := ⟨_, rfl⟩
        have hdc : decide ((0 : Int) ≤ cj) = true := decide_eq_true (by rw [hcj]; exact cmpI_ge_ hsl)
        have HCJ := Lib.hid hcj
        clear hsl hcj
        go_wp2_with fail
        refine (order_r w4 (tL.below hB)).mono ?_; rintro e_ w5 ⟨g30_, rfl, _, hkq_, hb⟩
        have c30 := CanAt.rw8 hkq_ lim8_L
        replace hB := hB.trans (hb.mono hB.size)
        replace rAx := rAx.below hb
        replace rAy := rAy.below hb
        replace hk7 := hk7.keep hb
        replace c28 := c28.below hb
        clear hb hkq_
        have h_ := cmp_v c28.num c30.num
        rw [← HCJ.out] at h_
        go_wp2_with fail
        refine (h_).mono ?_; rintro e_ w6 ⟨rfl, hd_⟩
        have hb := hd_.b
        replace hB := hB.trans (hb.mono hB.size)
        replace rAx := rAx.below hb
        replace rAy := rAy.below hb
        replace hk7 := hk7.keep hb
        replace c28 := c28.below hb
        replace c30 := c30.below hb
        clear hb hd_ h_
        go_wp2_with fail
        go_ret
        exact ⟨by rw [HE.out]; first | done | rfl, hB⟩
    · skip
      have HE : Hid (code = 91) := Lib.hid (by rw [HC1.out, if_neg]; rintro ⟨h_, _⟩; exact h64 h_)
      have g1 : ((sig.length : Int) != 64) = true := by simp; omega
      clear h64
      go_wp2_with fail
      go_ret
      exact ⟨by rw [HE.out]; first | done | rfl, hB⟩
end Go.Proofs.YtlolkighnnedfaaDoor
