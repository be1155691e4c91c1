/- package sha: Size, Block, New, block, Write, Copy by their contracts. -/
import Derived.Test.YtnlmkikaaifcmaaDoorShaC
import Derived.Test.YtnlmkikaaifcmaaDoorShaM
set_option linter.unusedVariables false
set_option linter.unusedSimpArgs false
namespace Go.Proofs.YtnlmkikaaifcmaaDoor
open Go.RowKit Go.Sg

theorem Size_c (h : Int) (w : World) : Calls Tryd.prog 16 #[.int .i64 h] w fun e w' => e = .returned (.int .i64 (shaSize h)) ∧ w = w' := by
  by_cases h1 : h = 1
  · subst h1
    go_enter Tryd.func16, Tryd.ntmps16
    go_wp2
    go_ret
    exact ⟨rfl, rfl⟩
  by_cases h2 : h = 2
  · subst h2
    go_enter Tryd.func16, Tryd.ntmps16
    go_wp2
    go_ret
    exact ⟨rfl, rfl⟩
  by_cases h3 : h = 3
  · subst h3
    go_enter Tryd.func16, Tryd.ntmps16
    go_wp2
    go_ret
    exact ⟨rfl, rfl⟩
  have e : Hid (shaSize h = 0) := Lib.hid (by unfold shaSize; rw [if_neg h1, if_neg h2, if_neg h3])
  have g1 : (h == 1) = false := by simpa using h1
  have g2 : (h == 2) = false := by simpa using h2
  have g3 : (h == 3) = false := by simpa using h3
  clear h1 h2 h3
  go_enter Tryd.func16, Tryd.ntmps16
  go_wp2
  go_ret
  exact ⟨by rw [e.out]; rfl, rfl⟩

theorem Block_c (h : Int) (w : World) : Calls Tryd.prog 14 #[.int .i64 h] w fun e w' => e = .returned (.int .i64 (shaBlock h)) ∧ w = w' := by
  by_cases h1 : h = 1
  · subst h1
    go_enter Tryd.func14, Tryd.ntmps14
    go_wp2
    go_ret
    exact ⟨rfl, rfl⟩
  by_cases h2 : h = 2
  · subst h2
    go_enter Tryd.func14, Tryd.ntmps14
    go_wp2
    go_ret
    exact ⟨rfl, rfl⟩
  by_cases h3 : h = 3
  · subst h3
    go_enter Tryd.func14, Tryd.ntmps14
    go_wp2
    go_ret
    exact ⟨rfl, rfl⟩
  have e : Hid (shaBlock h = 0) := Lib.hid (by unfold shaBlock; rw [if_neg h1, if_neg h2, if_neg h3])
  have g1 : (h == 1) = false := by simpa using h1
  have g2 : (h == 2) = false := by simpa using h2
  have g3 : (h == 3) = false := by simpa using h3
  clear h1 h2 h3
  go_enter Tryd.func14, Tryd.ntmps14
  go_wp2
  go_ret
  exact ⟨by rw [e.out]; rfl, rfl⟩

/-! ### block, Write -/
def BlockPost (g : Nat) (h : Int) (S : List (BitVec 32)) (L : List (BitVec 64)) (r : List Int) (n : BitVec 64) (w : World) (e : Ending) (w' : World) : Prop :=
  e = .returned (.tuple #[]) ∧ St STy w' g h (if h = 1 then (block32 K256 (S8.of S) r 0).list else S) (if h = 1 then L else (block64 K512 (S8.of L) r 0).list) r n ∧ w.grownBy w' (some g)

theorem block_c (g : Nat) (h : Int) (S : List (BitVec 32)) (L : List (BitVec 64)) (r : List Int) (n : BitVec 64) (w : World) (hs : St STy w g h S L r n) (ht : ShaTabs w) :
    Calls Tryd.prog 15 #[.pointer (some ⟨g, 0, none⟩)] w (BlockPost g h S L r n w) := by
  have ch := hs.c_h
  by_cases h1 : h = 1
  · subst h1
    go_enter Tryd.func15, Tryd.ntmps15
    go_wp2_with fail
    refine (block32_c g 1 S L r n w hs ht).mono ?_; rintro e w' ⟨rfl, hs', hg⟩
    go_wp2_with fail
    go_end0
    exact ⟨rfl, hs', hg⟩
  · have e1 : (h == 1) = false := by simpa using h1
    have H1 := Lib.hid h1
    clear h1
    go_enter Tryd.func15, Tryd.ntmps15
    go_wp2_with fail
    refine (block64_c g h S L r n w hs ht).mono ?_; rintro e w' ⟨rfl, hs', hg⟩
    go_wp2_with fail
    go_end0
    refine ⟨rfl, ?_, hg⟩
    rw [if_neg H1.out, if_neg H1.out]
    exact hs'

abbrev shaTop : Nat := top5 8 9 0 1 2
/-- A State that has taken in the text T. -/
structure ShaSt (w : World) (g : Nat) (h : Int) (T : List Int) : Prop where
  ex : ∃ S L r, St STy w g h S L r (.ofNat 64 T.length) ∧ Mid h T S L r
  ok : IsHash h
  u8 : U8 T
  far : shaTop ≤ g
theorem ShaSt.lt {w : World} {g : Nat} {h : Int} {T : List Int} (s : ShaSt w g h T) : g < w.heap.size := by obtain ⟨S, L, r, st, _⟩ := s.ex; exact st.lt
theorem ShaSt.keep {w w' : World} {g : Nat} {h : Int} {T : List Int} (s : ShaSt w g h T) (hb : Below w.heap.size w w') : ShaSt w' g h T := by
  obtain ⟨S, L, r, st, m⟩ := s.ex
  exact ⟨⟨S, L, r, st.keep hb, m⟩, s.ok, s.u8, s.far⟩
theorem ShaSt.grown {w w' : World} {g : Nat} {h : Int} {T : List Int} {row : Option Nat} (s : ShaSt w g h T) (hb : w.grownBy w' row) (hg : some g ≠ row) : ShaSt w' g h T := by
  obtain ⟨S, L, r, st, m⟩ := s.ex
  exact ⟨⟨S, L, r, st.grown hb hg, m⟩, s.ok, s.u8, s.far⟩

def WritePost (g : Nat) (h : Int) (T : List Int) (w : World) (e : Ending) (w' : World) : Prop :=
  e = .returned (.tuple #[]) ∧ ShaSt w' g h T ∧ w.grownBy w' (some g)

theorem wi_mod (n sz : Nat) (h : sz = 64 ∨ sz = 128) : wi (BitVec.ofNat 64 n) % (sz : Int) = ((n % sz : Nat) : Int) := by
  rw [wi, BitVec.toNat_ofNat]
  rcases h with rfl | rfl <;> omega
theorem wi_plus (n k : Nat) : wi (BitVec.ofNat 64 n) + (k : Int) = wi (BitVec.ofNat 64 n) + (k : Int) := rfl

set_option maxHeartbeats 4000000 in
set_option maxRecDepth 100000 in
theorem Write_c (g : Nat) (h : Int) (T : List Int) (a : Option Addr) (cap : Nat) (bs : List Int) (w : World) (hs : ShaSt w g h T) (hb : Sl .u8 w a cap bs) (ub : U8 bs) (hap : ∀ b off, a = some ⟨b, off, none⟩ → 0 < bs.length → b ≠ g) (ht : ShaTabs w) :
    Calls Tryd.prog 8 #[.pointer (some ⟨g, 0, none⟩), .slice a bs.length cap] w (WritePost g h (T ++ bs) w) := by
  have hmx := Nat.le_trans hb.le hb.max
  obtain ⟨S0, L0, r0, st0, m0⟩ := hs.ex
  have ch := st0.c_h
  have hh := hs.ok
  obtain ⟨sz, hsz⟩ : ∃ sz, sz = shaBlock h := ⟨_, rfl⟩
  have hs2 : Hid (sz = 64 ∨ sz = 128) := Lib.hid (by rcases hh.block with ⟨_, e⟩ | ⟨_, e⟩ <;> omega)
  have HSZ := Lib.hid hsz
  have bl := Block_c h w
  rw [← hsz] at bl
  have s1 : 64 ≤ sz := by have := hs2.out; omega
  have s2 : sz ≤ 128 := by have := hs2.out; omega
  clear hsz
  go_enter Tryd.func8, Tryd.ntmps8
  go_wp2_with fail
  refine bl.mono ?_; rintro e w' ⟨rfl, rfl⟩
  go_wp2_with fail
  clear ch bl
  go_loopw [1] (fun t wr => ∃ (j : Nat) (a' : Option Addr) (cap' : Nat), j ≤ bs.length ∧ t = .slice a' (bs.length - j) cap' ∧ Sl .u8 wr a' cap' (bs.drop j) ∧ (∀ b off, a' = some ⟨b, off, none⟩ → 0 < bs.length - j → b ≠ g) ∧ ShaSt wr g h (T ++ bs.take j) ∧ w.grownBy wr (some g))
    (fun t _ => match t with | .slice _ n _ => n | _ => 0)
  case atStart => exact ⟨0, a, cap, by omega, rfl, hb, hap, by rw [List.take_zero, List.append_nil]; exact hs, rfl, rfl, rfl, Nat.le_refl _, fun _ _ _ => rfl⟩
  case round =>
    clear st0 m0 hb hap hs
    obtain ⟨j, a', cap', hj, rfl, hb, hap, hs, hg⟩ := hrel
    obtain ⟨m, hm⟩ : ∃ m, m = bs.length - j := ⟨_, rfl⟩
    rw [← hm] at hap ⊢
    have HM := Lib.hid hm
    have hdl : Hid ((bs.drop j).length = m) := Lib.hid (by rw [List.length_drop, hm])
    have hcap : m ≤ cap' := by have := hb.le; rw [hdl.out] at this; exact this
    have hcmx := hb.max
    clear hm
    rcases Nat.eq_zero_or_pos m with h0 | hp
    · subst h0
      have hfin : ShaSt wr g h (T ++ bs) := by rw [List.take_of_length_le (by have := HM.out; omega)] at hs; exact hs
      go_wp2_with fail
      go_end0
      exact ⟨rfl, hfin, hg⟩
    · obtain ⟨S, L, r, st, md⟩ := hs.ex
      obtain ⟨N, hN⟩ : ∃ N, N = (T ++ bs.take j).length := ⟨_, rfl⟩
      rw [← hN] at st
      have cn := st.c_n
      have hmod := wi_mod N sz hs2.out
      obtain ⟨at_, hat⟩ : ∃ at_, at_ = N % sz := ⟨_, rfl⟩
      rw [← hat] at hmod
      have hat1 : at_ < sz := by rw [hat]; exact Nat.mod_lt _ (by omega)
      have hrng := wi_rng64 (BitVec.ofNat 64 N)
      have HN := Lib.hid hN
      have HA := Lib.hid hat
      have hp' : (0 : Int) < (m : Int) := by omega
      have hcut := fun W => cut_array (P := Tryd.prog) W 44 5 128 Tryd.underlying44 size8 g 17 at_ sz (by omega) s2 (by omega) (at_ : Int) (sz : Int) rfl rfl
      have hl1 := st.len
      obtain ⟨kk, hkk⟩ : ∃ kk, kk = min m (sz - at_) := ⟨_, rfl⟩
      have kp : 0 < kk := by omega
      have km : kk ≤ m := by omega
      have ks : at_ + kk ≤ sz := by omega
      have hy : (bs.drop j).take (sz - at_) = (bs.drop j).take kk := by
        rcases Nat.le_total m (sz - at_) with hc | hc
        · rw [List.take_of_length_le (by rw [hdl.out]; omega), List.take_of_length_le (by rw [hdl.out]; omega)]
        · rw [show sz - at_ = kk by omega]
      have HY := Lib.hid hy
      have HKK := Lib.hid hkk
      clear hN hat hy hkk
      go_wp2_with (with_reducible refine wpList_copy_rw rfl (.tmp 28) (.tmp 29) 29 29 rfl 5 Tryd.underlying29 size8 g (17 + at_) (sz - at_) (128 - at_) a' m cap' rfl rfl STy _ .u8 (bs.drop j) st.rw hb.cells hdl.out (by have := HKK.out; omega) (by have := HKK.out; rw [hl1]; omega) ?_)
      intro w1 hk1 hg1 hz1
      rw [← HKK.out] at hk1 ⊢
      have st1 : St STy w1 g h S L (laid r (bs.drop j) at_ kk) (.ofNat 64 N) := ⟨by
          rw [← stCells_copy h S L r (bs.drop j) (.ofNat 64 N) at_ kk (sz - at_) st.s8 st.l8 st.r128 (by omega) HY.out]
          simpa using hk1, st.s8, st.l8, by rw [laid_len _ _ _ _ (by rw [st.r128]; omega) (by rw [hdl.out]; omega)]; exact st.r128, st.u8.laid (ub.drop (by omega) _) _ _⟩
      have sb1 := hb.grown' hg1 (fun b off ha hp e => hap b off ha (by rw [hdl.out] at hp; exact hp) (Option.some.inj e))
      have hg2 := only_trans hg hg1
      have hfar := hs.far
      have eT : (T ++ bs.take j) ++ (bs.drop j).take kk = T ++ bs.take (j + kk) := by rw [List.append_assoc, ← List.take_add]
      have eA : at_ = (T ++ bs.take j).length % shaBlock h := by rw [HA.out, HN.out, HSZ.out]
      have mdg : Hid (at_ + kk < sz → Mid h (T ++ bs.take (j + kk)) S L (laid r (bs.drop j) at_ kk)) := Lib.hid fun hlt => by
        rw [← eT, eA]
        exact md.go hh st.r128 (by rw [hdl.out]; exact km) (by rw [← eA, ← HSZ.out]; exact hlt)
      have mdf : Hid (at_ + kk = sz → Mid h (T ++ bs.take (j + kk)) (if h = 1 then (block32 K256 (S8.of S) (laid r (bs.drop j) at_ kk) 0).list else S)
          (if h = 1 then L else (block64 K512 (S8.of L) (laid r (bs.drop j) at_ kk) 0).list) (laid r (bs.drop j) at_ kk)) := Lib.hid fun he => by
        rw [← eT, eA]
        exact md.full hh st.r128 (by rw [hdl.out]; exact km) (by rw [← eA, ← HSZ.out]; exact he)
      have HN2 : Hid (N + kk = (T ++ bs.take (j + kk)).length) := Lib.hid (by rw [HN.out]; simp; have := HM.out; omega)
      have uT : U8 (T ++ bs.take (j + kk)) := by
        rw [← eT]
        exact hs.u8.append (by omega) ((ub.drop (by omega) _).take (by omega) _)
      clear eT eA md
      clear hk1 hg1 hz1 hb hg st cn hcut hl1
      have cn := st1.c_n
      have fn := st1.free 145
      have hsum : IntKind.u64.wrap (wi (BitVec.ofNat 64 N) + (kk : Int)) = wi (BitVec.ofNat 64 (N + kk)) := by
        rw [IntKind.wrap_u64, wi, wi, BitVec.toNat_ofNat, BitVec.toNat_ofNat]; omega
      have st2 := st1.set_n (.ofNat 64 (N + kk))
      have hg3 := only_setCell (p := ⟨g, 145, none⟩) hg2 (.inl rfl) (.int .u64 (wi (BitVec.ofNat 64 (N + kk))))
      have sb2 := sb1.grown' (grownBy_set w1 ⟨g, 145, none⟩ (.int .u64 (wi (BitVec.ofNat 64 (N + kk))))) (fun b off ha hp e => hap b off ha (by rw [hdl.out] at hp; exact hp) (Option.some.inj e))
      have cut2 := sb2.cut kk (by rw [hdl.out]; exact km)
      rw [List.drop_drop] at cut2
      have hcut2 := fun W => cut_l (P := Tryd.prog) W 29 5 Tryd.underlying29 size8 a' m cap' kk km (kk : Int) rfl
      obtain ⟨a2, ha2⟩ : ∃ a2, a2 = if cap' = kk then a' else a'.map (·.add kk) := ⟨_, rfl⟩
      rw [← ha2] at cut2 hcut2
      have hap2 : ∀ b off, a2 = some ⟨b, off, none⟩ → 0 < bs.length - (j + kk) → b ≠ g := fun b off hb hp => by
        rw [ha2] at hb
        obtain ⟨b', off', rfl, hc⟩ := sb2.cells (by rw [hdl.out]; omega)
        obtain ⟨o2, sp, he⟩ := cut_block hb
        cases he
        exact hap b _ rfl (by omega)
      have mk : m - kk = bs.length - (j + kk) := by have := HM.out; omega
      rw [mk] at hcut2
      have ht3 := ht.grown hg3 hfar
      clear ha2 st1 sb1 sb2 hg2 mk hmod hrng
      by_cases hfull : at_ + kk = sz
      · have e1 : ((at_ : Int) + (kk : Int) == (sz : Int)) = true := by simp; omega
        have md' := mdf.out hfull
        clear hfull mdf mdg
        go_wp2_with fail
        refine (block_c g h S L _ _ _ st2 ht3).mono ?_; rintro e w3 ⟨rfl, st3, hg4⟩
        have hg5 := only_trans hg3 hg4
        have cut3 := cut2.grown' hg4 (fun b off ha hp e => hap2 b off ha (by simpa using hp) (Option.some.inj e))
        rw [HN2.out] at st3
        clear hg3 hg4 cut2 st2 ht3
        go_wp2_with fail
        go_roundw
        case rel => exact ⟨j + kk, a2, _, by have := HM.out; omega, rfl, cut3, hap2, ⟨⟨_, _, _, st3, md'⟩, hh, uT, hfar⟩, hg5⟩
        case measure => have := HM.out; simp; omega
      · have e1 : ((at_ : Int) + (kk : Int) == (sz : Int)) = false := beq_false_of_ne (by omega)
        have md' := mdg.out (by omega)
        have hS : ShaSt (w1.setCell ⟨g, 145, none⟩ (.int .u64 (wi (BitVec.ofNat 64 (N + kk))))) g h (T ++ bs.take (j + kk)) := ⟨⟨_, _, _, by rw [← HN2.out]; exact st2, md'⟩, hh, uT, hfar⟩
        clear hfull mdf mdg st2 md'
        go_wp2_with fail
        go_roundw
        case rel => exact ⟨j + kk, a2, _, by have := HM.out; omega, rfl, cut2, hap2, hS, hg3⟩
        case measure => have := HM.out; simp; omega
end Go.Proofs.YtnlmkikaaifcmaaDoor
