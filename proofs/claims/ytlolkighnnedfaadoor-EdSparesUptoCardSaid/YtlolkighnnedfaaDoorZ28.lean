import Derived.Test.YtlolkighnnedfaaDoorZ27
import Derived.Outline
/- package sha: Sum of a State by its contract. -/
set_option linter.unusedVariables false
set_option linter.unusedSimpArgs false
namespace Go.Sg
open Go.RowKit
theorem New.far {B : Nat} {k : IntKind} {E : TypeId} {w : World} {a : Option Addr} {n cap : Nat} {xs : List Int} (h : New B k E w (.slice a n cap) xs) : ∀ b off, a = some ⟨b, off, none⟩ → B ≤ b := by
  rintro b off rfl
  rcases h with ⟨hv, _⟩ | ⟨g, cp, cs, hv, hg, _⟩
  · simp at hv
  · simp at hv; omega
theorem New.drewN {B : Nat} {k : IntKind} {E : TypeId} {w : World} {v : Value} {xs : List Int} (h : New B k E w v xs) (n : Nat) : New B k E (w.drewN n) v xs :=
  h.kept (row := none) ⟨rfl, rfl, rfl, Nat.le_refl _, fun _ _ _ => rfl⟩ (by cases hv : v.ownBlock <;> simp)
theorem cut_3 {P : Program} (w : World) (T E : TypeId) (hu : P.underlying T = some (.slice E)) (hs : (P.info? E).map (·.size) = some 1) (a : Option Addr) (n cap h m : Nat) (h1 : h ≤ m) (h2 : m ≤ cap) (H M : Int) (hH : H = h) (hM : M = m) :
    (Instr.sliceAt T (.slice a n cap) none (some (.int .i64 H)) (some (.int .i64 M))).run P w = .ok (.slice (if m = 0 then a else a.map (·.add 0)) h m) w := by
  subst hH hM
  cases hq : P.info? E with
  | none => simp [hq] at hs
  | some i =>
    have hz : i.size = 1 := by simpa [hq] using hs
    simp [Instr.sliceAt, Instr.slice, run_underlying hu, Instr.sliceBounds, run_sliceBound, sizeOf, typeInfo, hq, hz, h1, h2]
theorem New.cut {B : Nat} {k : IntKind} {E : TypeId} {w : World} {a : Option Addr} {n cap : Nat} {xs : List Int} (h : New B k E w (.slice a n cap) xs) (m : Nat) (hm : m ≤ xs.length) (hp : 0 < xs.length) : New B k E w (.slice a m m) (xs.take m) := by
  rcases h with ⟨hv, rfl⟩ | ⟨g, cp, cs, hv, hg, hh, h1, h2, h3, h4⟩
  · simp at hp
  · simp only [Value.slice.injEq] at hv
    obtain ⟨rfl, rfl, rfl⟩ := hv
    refine .inr ⟨g, m, cs, ?_, hg, hh, ?_, by omega, by omega, ?_⟩
    · rw [List.length_take, Nat.min_eq_left hm]
    · rw [List.length_take, Nat.min_eq_left hm]; exact Nat.le_refl _
    · rw [List.length_take, Nat.min_eq_left hm, List.map_take, ← h4, List.take_take, Nat.min_eq_left hm]
end Go.Sg
namespace Go.Proofs.YtlolkighnnedfaaDoor
open Go.RowKit Go.Sg

theorem info8s : (Tryd.prog.info? 5).map (fun i => (i.zero, i.size, i.bytes)) = some (some (.int .u8 0), 1, 1) := by kernel_rfl

def SumPost (h : Int) (T : List Int) (w : World) (e : Ending) (w' : World) : Prop := ∃ v, e = .returned v ∧ New w.heap.size .u8 5 w' v (sha h T) ∧ Below w.heap.size w w'

set_option maxHeartbeats 8000000 in
set_option maxRecDepth 100000 in
theorem StSum_c (g : Nat) (h : Int) (T : List Int) (w : World) (hs : ShaSt w g h T) (hlen : T.length < 2305843009213693952) (ht : ShaTabs w) :
    Calls Tryd.prog 113 #[.pointer (some ⟨g, 0, none⟩)] w (SumPost h T w) := by
  obtain ⟨S, L, r, st, md⟩ := hs.ex
  obtain ⟨N, hN⟩ : ∃ N, N = T.length := ⟨_, rfl⟩
  have HN := Lib.hid hN
  rw [← hN] at st hlen
  have hl := st.len
  have hfar := hs.far
  have hlt := st.lt
  clear hN
  obtain ⟨sz, hsz⟩ : ∃ sz, sz = shaBlock h := ⟨_, rfl⟩
  obtain ⟨fd, hfd⟩ : ∃ fd, fd = sz / 8 := ⟨_, rfl⟩
  have hs2 : Hid ((sz = 64 ∧ fd = 8) ∨ (sz = 128 ∧ fd = 16)) := Lib.hid (by rcases hs.ok.block with ⟨_, e⟩ | ⟨_, e⟩ <;> omega)
  have HSZ := Lib.hid hsz
  have HFD := Lib.hid hfd
  have s1 : 64 ≤ sz := by have := hs2.out; omega
  have s2 : sz ≤ 128 := by have := hs2.out; omega
  clear hsz hfd
  go_enter Tryd.func113, Tryd.ntmps113
  go_wp2_with (first | (refine wpList_load_rw rfl STy (.tmp 17) rfl g rfl STy (stCells h S L r (.ofNat 64 N)) _ st.rw Tryd.underlying123 rfl (by rw [hl]; exact sizeSt) ?_) | (refine wpList_alloc_rw rfl STy rfl (stCells 0 z32 z64 zr 0) 146 zeroSt ?_))
  intro w1 hk1 hs1 hb1
  go_wp2_with (refine wpList_store_rw rfl STy (.tmp 3) (.tmp 18) rfl w.heap.size 0 STy _ (stCells h S L r (.ofNat 64 N)) rfl rfl hk1 (by rw [hl]; exact sizeSt) (stCells_one _ _ _ _ _) (by rw [hl]; decide) ?_)
  intro w2 hk2 hg2 hs2
  have hk3 : Rw w2 w.heap.size STy (stCells h S L r (.ofNat 64 N)) := by
    have e : (stCells 0 z32 z64 zr 0#64).drop 146 = [] := List.drop_of_length_le (by decide)
    simpa [hl, e] using hk2
  have hb2 := hb1.grown hg2 (by omega) (by simp)
  have st2 : St STy w2 w.heap.size h S L r (.ofNat 64 N) := ⟨hk3, st.s8, st.l8, st.r128, st.u8⟩
  have ht2 := ht.below hb2
  have HS2 : Hid (w2.heap.size = w.heap.size + 1) := Lib.hid (by omega)
  clear hk1 hg2 hk2 hk3 hs1 hs2 st hb1
  have hgC : w.heap.size < w2.heap.size := by have := HS2.out; omega
  have ch := st2.c_h
  have cn := st2.c_n
  rw [show wi (BitVec.ofNat 64 N) = (N : Int) by rw [wi, BitVec.toNat_ofNat]; omega] at cn
  go_wp2_with fail
  have bl := fun n => Block_c h (w2.drewN n)
  rw [← HSZ.out] at bl
  go_quiet ((exact quiet_of' (bl _)))
  have e8 : (sz : Int) / 8 = (fd : Int) := by have := HFD.out; omega
  obtain ⟨q, hq⟩ : ∃ q, q = N % sz := ⟨_, rfl⟩
  have eq_ : (N : Int) % (sz : Int) = (q : Int) := by rw [hq]; exact (Int.natCast_emod _ _).symm
  have HQ := Lib.hid hq
  have qlt : q < sz := by rw [hq]; exact Nat.mod_lt _ (by omega)
  obtain ⟨z, hz⟩ : ∃ z, z = gap sz fd N := ⟨_, rfl⟩
  have HZ := Lib.hid hz
  have zlt : z < sz := by rw [hz]; exact gap_le hs2.out N
  have f16 : fd ≤ 16 := by have := hs2.out; omega
  have hnew0 : New w2.heap.size .u8 5 ((w2.drewN nq).alloc (.cells #[.int .u8 128] 5)) (.slice (some ⟨w2.heap.size, 0, none⟩) 1 1) (128 :: List.replicate 0 0) :=
    New.of_blk (xs := [128]) (cells_new .u8 (w2.drewN nq) 5 [128] #[.int .u8 128] rfl _ rfl) (Nat.le_refl _) 1 1 (by omega) (by simp) (by omega)
  have st3 := (st2.drewN nq).alloc (.cells #[.int .u8 128] 5)
  have hb3 : Below w.heap.size w ((w2.drewN nq).alloc (.cells #[.int .u8 128] 5)) := (below_drewN hb2 nq).alloc (by simp; omega) _
  have hc3 : Below w2.heap.size w2 ((w2.drewN nq).alloc (.cells #[.int .u8 128] 5)) := (below_drewN (.refl _ _) nq).alloc (by simp) _
  clear hq hz ch cn bl st2 hb2
  go_wp2_with fail
  go_loopw [7] (fun v wr => ∃ (j : Nat), j ≤ z ∧ New w2.heap.size .u8 5 wr v (128 :: List.replicate j 0) ∧ St STy wr w.heap.size h S L r (.ofNat 64 N) ∧ Below w.heap.size w wr ∧ Below w2.heap.size w2 wr)
    (fun v _ => match v with | .slice _ n _ => z + 1 - n | _ => 0)
  case atStart => exact ⟨0, by omega, hnew0, st3, hb3, hc3⟩
  case round =>
    clear hnew0 st3 hb3 hc3
    obtain ⟨j, hj, hv, st, hb, hc⟩ := hrel
    obtain ⟨a, cap, rfl, hsl⟩ := hv.sl
    obtain ⟨ln, hln⟩ : ∃ ln, ln = (128 :: List.replicate j (0 : Int)).length := ⟨_, rfl⟩
    rw [← hln] at hv ⊢
    have hl1 : ln = 1 + j := by rw [hln]; simp; omega
    have HL := Lib.hid hln
    have HL1 := Lib.hid hl1
    have lb : ln ≤ 128 := by omega
    have hbs := hc.size
    clear hln hl1
    by_cases hjz : j = z
    · have ht1 : (((q : Int) + (ln : Int)) % (sz : Int) != (sz : Int) - (fd : Int)) = false := by
        have := (gap_test hs2.out N j (by rw [← HZ.out]; exact hj)).2 (by rw [← HZ.out]; exact hjz)
        rw [← HQ.out, ← HL1.out] at this
        have e : ((q : Int) + (ln : Int)) % (sz : Int) = (((q + ln) % sz : Nat) : Int) := by rw [Int.natCast_emod]; rfl
        rw [e, this]
        have := hs2.out
        simp
        omega
      obtain rfl : j = z := hjz
      have hv0 : New w2.heap.size .u8 5 wr (.slice a ln cap) (128 :: (List.replicate j 0 ++ (lenB N fd).take (fd - fd))) := by
        rw [show (128 :: (List.replicate j 0 ++ (lenB N fd).take (fd - fd)) : List Int) = 128 :: List.replicate j 0 by simp]
        exact hv
      clear hsl hv
      have HLN := HL1
      go_wp2_with fail
      clear eq_ e8
      go_loopw [7, 8] (fun v t wr => ∃ (c : Nat), c ≤ fd ∧ t = .int .i64 ((c : Int) - 1) ∧ New w2.heap.size .u8 5 wr v (128 :: (List.replicate j 0 ++ (lenB N fd).take (fd - c))) ∧ St STy wr w.heap.size h S L r (.ofNat 64 N) ∧ Below w.heap.size w wr ∧ Below w2.heap.size w2 wr)
        (fun _ t _ => (intOf t + 1).toNat)
      case atStart => exact ⟨fd, Nat.le_refl _, rfl, hv0, st, hb, hc⟩
      case round =>
        clear hv0 st hb hc hbs ht1
        obtain ⟨c, hcf, rfl, hv, st, hb, hc⟩ := hrel
        have hbs := hc.size
        obtain ⟨a1, cap1, rfl, hsl⟩ := hv.sl
        obtain ⟨l2, hl2⟩ : ∃ l2, l2 = (128 :: (List.replicate j (0 : Int) ++ (lenB N fd).take (fd - c))).length := ⟨_, rfl⟩
        rw [← hl2] at hv ⊢
        have HLL : Hid (l2 = 1 + j + (fd - c)) := Lib.hid (by rw [hl2]; simp [lenB_len]; omega)
        have lb2 : l2 ≤ 200 := by have := HLL.out; omega
        have HL2 := Lib.hid hl2
        clear hl2
        rcases Nat.eq_zero_or_pos c with h0 | hp
        · subst h0
          rw [show (((0 : Nat) : Int) - 1) = -1 from rfl]
          rw [Nat.sub_zero, List.take_of_length_le (Nat.le_of_eq (lenB_len N fd)), show (128 :: (List.replicate j 0 ++ lenB N fd) : List Int) = tail_ sz fd N by rw [tail_, ← HZ.out]] at hsl
          have hTl : (tail_ sz fd N).length = l2 := by rw [tail_len, HLL.out, HZ.out]; omega
          have hsS : ShaSt wr w.heap.size h T := ⟨⟨S, L, r, by rw [← HN.out]; exact st, md⟩, hs.ok, hs.u8, by have := ht.top; omega⟩
          have wc := Write_c w.heap.size h T a1 cap1 (tail_ sz fd N) wr hsS hsl (tail_u8 _ _ _) (fun b off ha _ => by have := hv.far b off ha; omega) (ht2.below hc)
          rw [hTl, show T ++ tail_ sz fd N = padded sz fd T by rw [padded, HN.out]] at wc
          have HTL := Lib.hid hTl
          clear hTl hsl hv st hsS
          go_wp2_with fail
          refine wc.mono ?_; rintro e w3 ⟨rfl, hS3, hg3⟩
          have hb3 := hb.grown hg3 (by omega) (by simp)
          obtain ⟨S', L', r', st', md'⟩ := hS3.ex
          obtain ⟨M, hM⟩ : ∃ M, M = BitVec.ofNat 64 (padded sz fd T).length := ⟨_, rfl⟩
          rw [← hM] at st'
          have ch := st'.c_h
          have hw3 := hb3.size
          clear hM wc hg3 hb hc hS3
          by_cases h1 : h = 1
          · subst h1
            have hrg : w3.rangeAt w.heap.size 1 (S'.map v32) := st'.rw.range 1 _ fun j v hv => by
              have hj : j < (S'.map v32).length := (List.getElem?_eq_some_iff.1 hv).1
              rw [stCells, getElem?_cons_succ', List.getElem?_append_left hj]; exact hv
            have sl8 : (S'.map v32).length = 8 := by rw [List.length_map]; exact st'.s8
            have hix := ix32 S' st'.s8
            go_wp2_with (refine wpList_load_mid rfl 95 (.tmp 74) rfl w.heap.size 1 rfl (S'.map v32) _ hrg Tryd.underlying95 rfl (by rw [sl8]; exact size8w) ?_)
            have hsum : Hid (S'.flatMap bytes32 = sha 1 T) := Lib.hid (by
              have := hs2.out
              have e1 : sz = 64 := HSZ.out
              have e2 : fd = 8 := by omega
              rw [md'.s rfl, e1, e2]; rfl)
            have HS8 := Lib.hid st'.s8
            go_loopw [10, 76] (fun v t wr => ∃ (k : Nat), k ≤ 8 ∧ t = .int .i64 (k : Int) ∧ New w3.heap.size .u8 5 wr v ((S'.take k).flatMap bytes32) ∧ Below w3.heap.size w3 wr)
              (fun _ t _ => 8 - (intOf t).toNat)
            case atStart => exact ⟨0, by omega, rfl, .nil _ _ _ _, .refl _ _⟩
            case round =>
              obtain ⟨k, hk, rfl, hv, hb⟩ := hrel
              have hbs := hb.size
              obtain ⟨a2, cap2, rfl, hsl⟩ := hv.sl
              by_cases hlt8 : k < 8
              · have hixk := fun W => hix k hlt8 W
                obtain ⟨l3, hl3⟩ : ∃ l3, l3 = ((S'.take k).flatMap bytes32).length := ⟨_, rfl⟩
                rw [← hl3] at hv ⊢
                have HL3 : Hid (l3 = 4 * k) := Lib.hid (by rw [hl3, flat32_len, List.length_take, HS8.out]; omega)
                have lb3 : l3 ≤ 32 := by have := HL3.out; omega
                have HLL3 := Lib.hid hl3
                obtain ⟨V, hV⟩ : ∃ V, V = (S'.getD k 0).toNat := ⟨_, rfl⟩
                have hVb : V ≤ 4294967295 := by rw [hV]; have := (S'.getD k 0).isLt; omega
                have e : wi (S'.getD k 0) = (V : Int) := by rw [hV]; rfl
                rw [e] at hixk
                have fin : Hid ((S'.take (k + 1)).flatMap bytes32 = (S'.take k).flatMap bytes32 ++ [(V : Int) / 16777216 % 256, (V : Int) / 65536 % 256, (V : Int) / 256 % 256, (V : Int) % 256]) := Lib.hid (by
                  rw [flat32_next _ _ (by rw [HS8.out]; omega), bytes32, ← hV]; rfl)
                have m1 : (V : Int) / 16777216 % 256 = (V : Int) / 16777216 := by omega
                have HM1 := Lib.hid m1
                clear hix hl3 hV e m1 hsl
                go_wp2_with (at_builtin; refine wpList_append_new _ rfl _ _ 22 rfl w3.heap.size 5 .u8 1 Tryd.underlying22 info8s _ _ rfl (hv.alloc _) _ _ 4 [(V : Int) / 16777216, (V : Int) / 65536 % 256, (V : Int) / 256 % 256, (V : Int) % 256] rfl rfl (cells_new .u8 wr 5 [(V : Int) / 16777216, (V : Int) / 65536 % 256, (V : Int) / 256 % 256, (V : Int) % 256] _ rfl _ rfl).cells (by rw [← HLL3.out]; simp only [List.length_cons, List.length_nil]; omega) (by rw [← HLL3.out]; simp only [List.length_cons, List.length_nil]; omega) (by simp; omega) ?_)
                intro v' w' hv' hg' _
                have hlt1 := fun g hg => (hv.lt g hg).1
                have hb' : Below w3.heap.size w3 w' := (hb.alloc hbs _).grown hg' (by simp; omega) hlt1
                rw [← HM1.out, ← fin.out] at hv'
                clear hv hg' hb
                go_wp2_with fail
                go_roundw
                case rel => exact ⟨k + 1, by omega, by go_num, hv', hb'⟩
                case measure => simp [intOf]; omega
              · obtain rfl : k = 8 := by omega
                rw [show ((8 : Nat) : Int) = 8 from rfl]
                rw [List.take_of_length_le (Nat.le_of_eq HS8.out)] at hv hsl
                obtain ⟨l3, hl3⟩ : ∃ l3, l3 = (S'.flatMap bytes32).length := ⟨_, rfl⟩
                rw [List.take_of_length_le (Nat.le_of_eq HS8.out), ← hl3]
                rw [← hl3, hsum.out] at hv
                have hb4 := hb3.trans (hb.mono hw3)
                clear hix hl3 hsl
                go_wp2_with fail
                go_ret
                exact ⟨_, rfl, hv.mono hw3, hb4⟩
          · have hok := hs.ok
            have e1 : (h == 1) = false := beq_false_of_ne h1
            have hrg : w3.rangeAt w.heap.size 9 (L'.map v64) := st'.rw.range 9 _ fun j v hv => by
              have hj : j < (L'.map v64).length := (List.getElem?_eq_some_iff.1 hv).1
              rw [stCells, show 9 + j = 1 + (8 + j) by omega, getElem?_cons_succ', List.getElem?_append_right (by simp [st'.s8]), List.length_map, st'.s8, Nat.add_sub_cancel_left, List.getElem?_append_left hj]; exact hv
            have sl8 : (L'.map v64).length = 8 := by rw [List.length_map]; exact st'.l8
            have hix := ix64 L' st'.l8
            have hsum : Hid ((L'.flatMap bytes64).take (shaSize h) = sha h T ∧ shaSize h ≤ 64 ∧ shaSize h ≠ 0) := Lib.hid (by
              rcases hok with e | e | e
              · exact absurd e h1
              · subst e
                have a1 : sz = 128 := HSZ.out
                have a2 : fd = 16 := by have := hs2.out; omega
                rw [md'.l2 rfl, a1, a2]; exact ⟨rfl, by decide, by decide⟩
              · subst e
                have a1 : sz = 128 := HSZ.out
                have a2 : fd = 16 := by have := hs2.out; omega
                rw [md'.l3 rfl, a1, a2]
                refine ⟨?_, by decide, by decide⟩
                rw [List.take_of_length_le (by rw [flat64_len]; show 8 * 8 ≤ 64; decide)]; rfl)
            have HS8 := Lib.hid st'.l8
            clear h1
            go_wp2_with (refine wpList_load_mid rfl 120 (.tmp 95) rfl w.heap.size 9 rfl (L'.map v64) _ hrg Tryd.underlying120 rfl (by rw [sl8]; exact size8l) ?_)
            go_loopw [10, 97] (fun v t wr => ∃ (k : Nat), k ≤ 8 ∧ t = .int .i64 (k : Int) ∧ New w3.heap.size .u8 5 wr v ((L'.take k).flatMap bytes64) ∧ Below w3.heap.size w3 wr)
              (fun _ t _ => 8 - (intOf t).toNat)
            case atStart => exact ⟨0, by omega, rfl, .nil _ _ _ _, .refl _ _⟩
            case round =>
              obtain ⟨k, hk, rfl, hv, hb⟩ := hrel
              by_cases hlt8 : k < 8
              · have hixk := fun W => hix k hlt8 W
                obtain ⟨Wk, hWk⟩ : ∃ Wk, Wk = L'.getD k 0 := ⟨_, rfl⟩
                rw [← hWk] at hixk
                obtain ⟨V, hV⟩ : ∃ V, V = Wk.toNat := ⟨_, rfl⟩
                have hVb : V ≤ 18446744073709551615 := by rw [hV]; have := Wk.isLt; omega
                have e : wi Wk = (V : Int) := by rw [hV]; rfl
                rw [e] at hixk
                have fin : Hid ((L'.take (k + 1)).flatMap bytes64 = (L'.take k).flatMap bytes64 ++ bytes64 Wk) := Lib.hid (by rw [hWk]; exact flat64_next _ _ (by rw [HS8.out]; omega))
                have HV := Lib.hid hV
                have HPL : Hid (((L'.take k).flatMap bytes64).length = 8 * k) := Lib.hid (by rw [flat64_len, List.length_take, HS8.out]; omega)
                have hv0 : New w3.heap.size .u8 5 wr u10 ((L'.take k).flatMap bytes64 ++ (bytes64 Wk).take (8 - 8)) := by simpa using hv
                obtain ⟨wo, hwo⟩ : ∃ wo : World, wo = wr := ⟨_, rfl⟩
                subst hwo
                have hd8 : decide ((k : Int) < 8) = true := decide_eq_true (by omega)
                clear hix hV e hv hWk
                go_wp2_with fail
                go_loopw [10, 15] (fun v t wr => ∃ (c : Nat), c ≤ 8 ∧ t = .int .i64 (8 * (c : Int) - 8) ∧ New w3.heap.size .u8 5 wr v ((L'.take k).flatMap bytes64 ++ (bytes64 Wk).take (8 - c)) ∧ Below w3.heap.size w3 wr)
                  (fun _ t _ => (intOf t + 8).toNat)
                case atStart => exact ⟨8, by omega, rfl, hv0, hb⟩
                case round =>
                  clear hv0 hb
                  obtain ⟨c, hc8, rfl, hv, hb⟩ := hrel
                  have hbs := hb.size
                  obtain ⟨a2, cap2, rfl, hsl⟩ := hv.sl
                  obtain ⟨l3, hl3⟩ : ∃ l3, l3 = ((L'.take k).flatMap bytes64 ++ (bytes64 Wk).take (8 - c)).length := ⟨_, rfl⟩
                  rw [← hl3] at hv ⊢
                  rcases Nat.eq_zero_or_pos c with h0 | hp
                  · subst h0
                    rw [show (8 * ((0 : Nat) : Int) - 8) = -8 from rfl]
                    rw [Nat.sub_zero, List.take_of_length_le (Nat.le_of_eq (bytes64_len _)), ← fin.out] at hv
                    clear hl3
                    go_wp2_with fail
                    go_roundw
                    case rel => exact ⟨k + 1, by omega, by go_num, hv, hb⟩
                    case measure => simp [intOf]; omega
                  · obtain ⟨c, rfl⟩ : ∃ j, c = j + 1 := ⟨c - 1, by omega⟩
                    rw [show (8 * ((c + 1 : Nat) : Int) - 8) = 8 * (c : Int) by omega]
                    have HL3 : Hid (l3 = 8 * k + (8 - (c + 1))) := Lib.hid (by rw [hl3, List.length_append, HPL.out, List.length_take, bytes64_len]; omega)
                    have lb3 : l3 ≤ 64 := by have := HL3.out; omega
                    have HLL3 := Lib.hid hl3
                    have hx2 : (V : Int) / 2 ^ (8 * c) % 256 = ((V / 256 ^ c % 256 : Nat) : Int) := by
                      rw [show (256 : Nat) ^ c = 2 ^ (8 * c) by rw [show (256 : Nat) = 2 ^ 8 from rfl, ← Nat.pow_mul]]
                      simp only [Int.natCast_emod, Int.natCast_ediv, Int.natCast_pow]
                      rfl
                    have HX2 := Lib.hid hx2
                    clear hl3 hx2 hsl
                    go_wp2_with (at_builtin; refine wpList_append_new _ rfl _ _ 22 rfl w3.heap.size 5 .u8 1 Tryd.underlying22 info8s _ _ rfl (hv.alloc _) _ _ 1 [(V : Int) / 2 ^ (8 * c) % 256] rfl rfl (cells_one _ _ _ _ _ rfl) (by rw [← HLL3.out]; simp only [List.length_cons, List.length_nil]; omega) (by rw [← HLL3.out]; simp only [List.length_cons, List.length_nil]; omega) (by simp; omega) ?_)
                    intro v' w' hv' hg' _
                    have hlt1 := fun g hg => (hv.lt g hg).1
                    have hb' : Below w3.heap.size w3 w' := (hb.alloc hbs _).grown hg' (by simp; omega) hlt1
                    replace hv' : New w3.heap.size .u8 5 w' v' ((L'.take k).flatMap bytes64 ++ (bytes64 Wk).take (8 - c)) := by
                      rw [bytes64_next Wk c (by omega), ← HV.out, ← HX2.out, show 8 - (c + 1) = 7 - c by omega]; exact hv'
                    clear hv hg' hb
                    go_wp2_with fail
                    go_roundw
                    case rel => exact ⟨c, by omega, by go_num, hv', hb'⟩
                    case measure => simp [intOf]; omega
              · obtain rfl : k = 8 := by omega
                rw [show ((8 : Nat) : Int) = 8 from rfl]
                rw [List.take_of_length_le (Nat.le_of_eq HS8.out)] at hv
                obtain ⟨a2, cap2, rfl, hsl⟩ := hv.sl
                obtain ⟨l3, hl3⟩ : ∃ l3, l3 = (L'.flatMap bytes64).length := ⟨_, rfl⟩
                rw [← hl3] at hv
                rw [← hl3]
                have hl64 : l3 = 64 := by rw [hl3, flat64_len, HS8.out]
                have hc64 := (hsl.le)
                have hm64 := (hsl.max)
                rw [← hl3, hl64] at hc64
                obtain ⟨hsm, hs64, hs0⟩ := hsum.out
                have hv2 := hv.cut (shaSize h) (by rw [← hl3, hl64]; exact hs64) (by rw [← hl3, hl64]; omega)
                rw [hsm] at hv2
                obtain ⟨Z, hZ⟩ : ∃ Z, Z = shaSize h := ⟨_, rfl⟩
                have sz' := fun n => Size_c h (wr.drewN n)
                rw [← hZ] at hs64 hv2 hs0
                simp only [← hZ] at sz'
                have chr : wr.cell? ⟨w.heap.size, 0, none⟩ = some (.int .i64 h) := (hb.cell (p := ⟨w.heap.size, 0, none⟩) (by have := st'.lt; omega)).trans ch
                have hb4 := hb3.trans (hb.mono hw3)
                have hcut3 := fun W => cut_3 (P := Tryd.prog) W 22 5 Tryd.underlying22 size8 a2 l3 cap2 Z Z (Nat.le_refl _) (by omega) (Z : Int) (Z : Int) rfl rfl
                clear hix hl3 hsl hv hl64 hZ
                go_wp2_with fail
                go_quiet ((exact quiet_of' (sz' _)))
                go_wp2_with fail
                go_ret
                exact ⟨_, rfl, (hv2.mono hw3).drewN _, below_drewN hb4 _⟩
        · obtain ⟨c, rfl⟩ : ∃ k, c = k + 1 := ⟨c - 1, by omega⟩
          rw [show (((c + 1 : Nat) : Int) - 1) = (c : Int) by omega]
          obtain ⟨x, hx⟩ : ∃ x, x = 8 * N / 256 ^ c % 256 := ⟨_, rfl⟩
          have HX := Lib.hid hx
          by_cases hc8 : c < 8
          · have hx2 : ((N : Int) * 8) / 2 ^ (8 * c) % 256 = (x : Int) := by
              rw [hx, show (256 : Nat) ^ c = 2 ^ (8 * c) by rw [show (256 : Nat) = 2 ^ 8 from rfl, ← Nat.pow_mul]]
              simp only [Int.natCast_emod, Int.natCast_ediv, Int.natCast_mul, Int.natCast_pow]
              rw [Int.mul_comm]; rfl
            have HX2 := Lib.hid hx2
            clear hx hx2
            go_wp2_with (at_builtin; refine wpList_append_new _ rfl _ _ 22 rfl w2.heap.size 5 .u8 1 Tryd.underlying22 info8s _ _ rfl (hv.alloc _) _ _ 1 [(N : Int) * 8 / 2 ^ (8 * c) % 256] rfl rfl (cells_one _ _ _ _ _ rfl) (by have := HLL.out; simp; omega) (by have := HLL.out; simp; omega) (by simp; omega) ?_)
            intro v' w' hv' hg' _
            have hlt1 := fun g hg => (hv.lt g hg).1
            have hb' : Below w.heap.size w w' := (hb.alloc (by omega) _).grown hg' (by simp; omega) fun g hg => by have := hlt1 g hg; omega
            have hc' : Below w2.heap.size w2 w' := (hc.alloc hbs _).grown hg' (by simp; omega) hlt1
            have st' := (st.alloc (.cells #[.int .u8 ((N : Int) * 8 / 2 ^ (8 * c) % 256)] 5)).grown hg' (fun e => by have := hlt1 _ e.symm; omega)
            replace hv' : New w2.heap.size .u8 5 w' v' (128 :: (List.replicate j 0 ++ (lenB N fd).take (fd - c))) := by
              rw [lenB_take_next N fd c (by omega), ← HX.out]
              rw [HX2.out] at hv'; exact hv'
            clear hv hg' hb hc st hsl
            go_wp2_with fail
            go_roundw
            case rel => exact ⟨c, by omega, by go_num, hv', st', hb', hc'⟩
            case measure => simp [intOf]
          · have hx0 : x = 0 := by
              rw [hx, Nat.div_eq_of_lt (by
                have : (256 : Nat) ^ 8 ≤ 256 ^ c := Nat.pow_le_pow_right (by decide) (by omega)
                omega)]
            have hq0 : (N : Int) / 2305843009213693952 = 0 := by omega
            have HX0 := Lib.hid hx0
            clear hx hx0
            by_cases hc9 : c = 8
            · subst hc9
              go_wp2_with (at_builtin; refine wpList_append_new _ rfl _ _ 22 rfl w2.heap.size 5 .u8 1 Tryd.underlying22 info8s _ _ rfl (hv.alloc _) _ _ 1 [0] rfl rfl (cells_one _ _ _ _ _ rfl) (by have := HLL.out; simp; omega) (by have := HLL.out; simp; omega) (by simp; omega) ?_)
              intro v' w' hv' hg' _
              have hlt1 := fun g hg => (hv.lt g hg).1
              have hb' : Below w.heap.size w w' := (hb.alloc (by omega) _).grown hg' (by simp; omega) fun g hg => by have := hlt1 g hg; omega
              have hc' : Below w2.heap.size w2 w' := (hc.alloc hbs _).grown hg' (by simp; omega) hlt1
              have st' := (st.alloc (.cells #[.int .u8 (0)] 5)).grown hg' (fun e => by have := hlt1 _ e.symm; omega)
              replace hv' : New w2.heap.size .u8 5 w' v' (128 :: (List.replicate j 0 ++ (lenB N fd).take (fd - 8))) := by
                rw [lenB_take_next N fd 8 (by omega), ← HX.out]
                rw [HX0.out]; exact hv'
              clear hv hg' hb hc st hsl
              go_wp2_with fail
              go_roundw
              case rel => exact ⟨8, by omega, by go_num, hv', st', hb', hc'⟩
              case measure => simp [intOf]
            · have hc10 : ((c : Int) == 8) = false := beq_false_of_ne (by omega)
              clear hc9
              go_wp2_with (at_builtin; refine wpList_append_new _ rfl _ _ 22 rfl w2.heap.size 5 .u8 1 Tryd.underlying22 info8s _ _ rfl (hv.alloc _) _ _ 1 [0] rfl rfl (cells_one _ _ _ _ _ rfl) (by have := HLL.out; simp; omega) (by have := HLL.out; simp; omega) (by simp; omega) ?_)
              intro v' w' hv' hg' _
              have hlt1 := fun g hg => (hv.lt g hg).1
              have hb' : Below w.heap.size w w' := (hb.alloc (by omega) _).grown hg' (by simp; omega) fun g hg => by have := hlt1 g hg; omega
              have hc' : Below w2.heap.size w2 w' := (hc.alloc hbs _).grown hg' (by simp; omega) hlt1
              have st' := (st.alloc (.cells #[.int .u8 (0)] 5)).grown hg' (fun e => by have := hlt1 _ e.symm; omega)
              replace hv' : New w2.heap.size .u8 5 w' v' (128 :: (List.replicate j 0 ++ (lenB N fd).take (fd - c))) := by
                rw [lenB_take_next N fd c (by omega), ← HX.out]
                rw [HX0.out]; exact hv'
              clear hv hg' hb hc st hsl
              go_wp2_with fail
              go_roundw
              case rel => exact ⟨c, by omega, by go_num, hv', st', hb', hc'⟩
              case measure => simp [intOf]
    · have ht1 : (((q : Int) + (ln : Int)) % (sz : Int) != (sz : Int) - (fd : Int)) = true := by
        have := mt (gap_test hs2.out N j (by rw [← HZ.out]; exact hj)).1 (by rw [← HZ.out]; exact hjz)
        rw [← HQ.out, ← HL1.out] at this
        have e : ((q : Int) + (ln : Int)) % (sz : Int) = (((q + ln) % sz : Nat) : Int) := by rw [Int.natCast_emod]; rfl
        rw [e]
        have := hs2.out
        simp
        omega
      have hjz2 : j < z := by omega
      clear hjz
      go_wp2_with (at_builtin; refine wpList_append_new _ rfl _ _ 22 rfl w2.heap.size 5 .u8 1 Tryd.underlying22 info8s _ _ rfl (hv.alloc _) _ _ 1 [0] rfl rfl (cells_one _ _ _ _ _ rfl) (by simp; omega) (by simp; omega) (by simp; omega) ?_)
      intro v' w' hv' hg' _
      have hlt1 := fun g hg => (hv.lt g hg).1
      have hb' : Below w.heap.size w w' := (hb.alloc (by omega) _).grown hg' (by simp; omega) fun g hg => by have := hlt1 g hg; omega
      have hc' : Below w2.heap.size w2 w' := (hc.alloc hbs _).grown hg' (by simp; omega) hlt1
      have st' := (st.alloc (.cells #[.int .u8 0] 5)).grown hg' (fun e => by have := hlt1 _ e.symm; omega)
      replace hv' : New w2.heap.size .u8 5 w' v' (128 :: List.replicate (j + 1) 0) := by rw [List.replicate_succ']; exact hv'
      obtain ⟨a2, cap2, rfl, hsl2⟩ := hv'.sl
      clear hv hg' hb hc st hsl
      go_wp2_with fail
      go_roundw
      case rel => exact ⟨j + 1, by omega, hv', st', hb', hc'⟩
      case measure => have := HL1.out; simp; omega
end Go.Proofs.YtlolkighnnedfaaDoor
/- package sha: Sum of parts by its contract. -/
set_option linter.unusedVariables false
set_option linter.unusedSimpArgs false
namespace Go.Sg
open Go.RowKit

/-- A part: its address, its room, its bytes. -/
structure Part where
  a : Option Addr
  cap : Nat
  xs : List Int
def Part.val (p : Part) : Value := .slice p.a p.xs.length p.cap
/-- The parts' bytes, one behind the other. -/
def flat (ps : List Part) : List Int := ps.flatMap (·.xs)
/-- A row of slices of bytes at an address that may be missing where there is none. -/
structure Rows_ (w : World) (A : Option Addr) (ps : List Part) : Prop where
  at_ : 0 < ps.length → ∃ b off, A = some ⟨b, off, none⟩ ∧ ∀ j (h : j < ps.length), w.cell? ⟨b, off + j, none⟩ = some (ps[j]).val
  sl : ∀ p ∈ ps, Sl .u8 w p.a p.cap p.xs
  u8 : ∀ p ∈ ps, U8 p.xs
theorem Rows_.nil (w : World) (A : Option Addr) : Rows_ w A [] := ⟨fun h => by simp at h, fun p hp => by simp at hp, fun p hp => by simp at hp⟩
theorem Rows_.below {w w' : World} {A : Option Addr} {ps : List Part} (h : Rows_ w A ps) (hb : Below w.heap.size w w') : Rows_ w' A ps := by
  refine ⟨fun hp => ?_, fun p hp => (h.sl p hp).below hb, h.u8⟩
  obtain ⟨b, off, rfl, hc⟩ := h.at_ hp
  exact ⟨b, off, rfl, fun j hj => (hb.cell (World.block_lt_of_cell? w _ (hc j hj))).trans (hc j hj)⟩
theorem flat_take_succ (ps : List Part) (k : Nat) (h : k < ps.length) : flat (ps.take (k + 1)) = flat (ps.take k) ++ (ps[k]).xs := by
  unfold flat
  rw [List.take_succ_eq_append_getElem h, List.flatMap_append]; simp
theorem flat_len_le (ps : List Part) (k : Nat) : (flat (ps.take k)).length ≤ (flat ps).length := by
  have h : flat ps = flat (ps.take k) ++ flat (ps.drop k) := by
    unfold flat
    rw [← List.flatMap_append, List.take_append_drop]
  rw [h, List.length_append]; omega
theorem sha_no {h : Int} (hh : ¬ IsHash h) (T : List Int) : sha h T = [] := by
  unfold sha
  rw [if_neg fun e => hh (.inl e), if_neg fun e => hh (.inr (.inl e)), if_neg fun e => hh (.inr (.inr e))]
instance (h : Int) : Decidable (IsHash h) := by unfold IsHash; infer_instance
end Go.Sg
namespace Go.Proofs.YtlolkighnnedfaaDoor
open Go.RowKit Go.Sg

set_option maxHeartbeats 2000000 in
theorem ShaSum_c (h : Int) (A : Option Addr) (cap : Nat) (ps : List Part) (w : World) (hr : Rows_ w A ps) (hn : ps.length ≤ 9223372036854775807) (hlen : (flat ps).length < 2305843009213693952) (ht : ShaTabs w) :
    Calls Tryd.prog 64 #[.int .i64 h, .slice A ps.length cap] w (SumPost h (flat ps) w) := by
  by_cases hh : IsHash h
  · go_enter Tryd.func64, Tryd.ntmps64
    go_wp2_with fail
    refine (New_c h hh w ht).mono ?_; rintro e w1 ⟨g, rfl, hg, hs, hb⟩
    obtain ⟨N, hN⟩ : ∃ N, N = ps.length := ⟨_, rfl⟩
    rw [← hN] at hn ⊢
    have HN := Lib.hid hN
    clear hN
    go_wp2_with fail
    go_loopw [14] (fun t wr => ∃ k : Nat, k ≤ N ∧ t = .int .i64 (k : Int) ∧ ShaSt wr g h (flat (ps.take k)) ∧ Below w.heap.size w wr)
      (fun t _ => N - (intOf t).toNat)
    case atStart => exact ⟨0, by omega, rfl, hs, hb⟩
    case round =>
      clear hs hb
      obtain ⟨k, hk, rfl, hs, hb⟩ := hrel
      have htr := ht.below hb
      by_cases hlt : k < N
      · have hkp : k < ps.length := by rw [← HN.out]; exact hlt
        have hr1 := hr.below hb
        obtain ⟨b, off, rfl, hc⟩ := hr1.at_ (by omega)
        have hck := hc k hkp
        have hsl := hr1.sl _ (List.getElem_mem hkp)
        have hap := (hr.sl _ (List.getElem_mem hkp)).apart hg
        have hu := hr.u8 _ (List.getElem_mem hkp)
        have hfl := Lib.hid (flat_take_succ ps k hkp)
        obtain ⟨p, hp⟩ : ∃ p, p = ps[k] := ⟨_, rfl⟩
        rw [← hp] at hck hsl hu hfl hap
        have HP := Lib.hid hp
        rw [Part.val] at hck
        have wc := Write_c g h (flat (ps.take k)) p.a p.cap p.xs wr hs hsl hu hap htr
        rw [← hfl.out] at wc
        have hgs := hs.lt
        have hk2 : (k : Int) < (N : Int) := by omega
        clear HP
        clear hc hp hkp hsl hap hs hr1
        go_wp2_with fail
        refine wc.mono ?_; rintro e w2 ⟨rfl, hs2, hg2⟩
        have hb2 := below_then hb hg2 hg hb.size
        clear wc hg2 hb
        go_wp2_with fail
        go_roundw
        case rel => exact ⟨k + 1, by omega, by go_num, hs2, hb2⟩
        case measure => simp [intOf]; omega
      · obtain rfl : k = N := by omega
        rw [List.take_of_length_le (by rw [HN.out]; omega)] at hs
        go_wp2_with fail
        refine (StSum_c g h (flat ps) wr hs hlen htr).mono ?_; rintro e w2 ⟨v, rfl, hv, hb2⟩
        go_wp2_with fail
        go_ret
        exact ⟨v, rfl, hv.mono hb.size, hb.trans (hb2.mono hb.size)⟩
  · go_enter Tryd.func64, Tryd.ntmps64
    go_wp2_with fail
    refine (New_no h hh w).mono ?_; rintro e w1 ⟨rfl, hb⟩
    go_wp2_with fail
    go_ret
    exact ⟨_, rfl, by rw [sha_no hh]; exact .nil _ _ _ _, hb⟩
end Go.Proofs.YtlolkighnnedfaaDoor
