import Derived.Test.YtmbifokiebjmmaaDoorZ8
import Derived.Outline
import Derived.Test.YtmbifokiebjmmaaDoorZ2
/- package sha: Sum of a State by its contract. -/
set_option linter.unusedVariables false
set_option linter.unusedSimpArgs false
namespace Go.Sg
open Go.RowKit
theorem New.far {B : Nat} {k : IntKind} {E : TypeId} {w : World} {a : Option Addr} {n cap : Nat} {xs : List Int} (h : New B k E w (.slice a n cap) xs) : ∀ b off, a = some ⟨b, off, none⟩ → B ≤ b := by
  rintro b off rfl
  rcases h with ⟨hv, _⟩ | ⟨g, cp, cs, hv, hg, _⟩
  · simp at hv
  · simp at hv; omega
theorem New.drewN {B : Nat} {k : IntKind} {E : TypeId} {w : World} {v : Value} {xs : List Int} (h : New B k E w v xs) (n : Nat) : New B k E (w.drewN n) v xs :=
  h.kept (row := none) ⟨rfl, rfl, rfl, Nat.le_refl _, fun _ _ _ => rfl⟩ (by cases hv : v.ownBlock <;> simp)
theorem cut_3 {P : Program} (w : World) (T E : TypeId) (hu : P.underlying T = some (.slice E)) (hs : (P.info? E).map (·.size) = some 1) (a : Option Addr) (n cap h m : Nat) (h1 : h ≤ m) (h2 : m ≤ cap) (H M : Int) (hH : H = h) (hM : M = m) :
    (Instr.sliceAt T (.slice a n cap) none (some (.int .i64 H)) (some (.int .i64 M))).run P w = .ok (.slice (if m = 0 then a else a.map (·.add 0)) h m) w := by
  subst hH hM
  cases hq : P.info? E with
  | none => simp [hq] at hs
  | some i =>
    have hz : i.size = 1 := by simpa [hq] using hs
    simp [Instr.sliceAt, Instr.slice, run_underlying hu, Instr.sliceBounds, run_sliceBound, sizeOf, typeInfo, hq, hz, h1, h2]
theorem New.cut {B : Nat} {k : IntKind} {E : TypeId} {w : World} {a : Option Addr} {n cap : Nat} {xs : List Int} (h : New B k E w (.slice a n cap) xs) (m : Nat) (hm : m ≤ xs.length) (hp : 0 < xs.length) : New B k E w (.slice a m m) (xs.take m) := by
  rcases h with ⟨hv, rfl⟩ | ⟨g, cp, cs, hv, hg, hh, h1, h2, h3, h4⟩
  · simp at hp
  · simp only [Value.slice.injEq] at hv
    obtain ⟨rfl, rfl, rfl⟩ := hv
    refine .inr ⟨g, m, cs, ?_, hg, hh, ?_, by omega, by omega, ?_⟩
    · rw [List.length_take, Nat.min_eq_left hm]
    · rw [List.length_take, Nat.min_eq_left hm]; exact Nat.le_refl _
    · rw [List.length_take, Nat.min_eq_left hm, List.map_take, ← h4, List.take_take, Nat.min_eq_left hm]
end Go.Sg
namespace Go.Proofs.YtmbifokiebjmmaaDoor
open Go.RowKit Go.Sg

theorem info8s : (Tryd.prog.info? 5).map (fun i => (i.zero, i.size, i.bytes)) = some (some (.int .u8 0), 1, 1) := by kernel_rfl

def SumPost (h : Int) (T : List Int) (w : World) (e : Ending) (w' : World) : Prop := ∃ v, e = .returned v ∧ New w.heap.size .u8 5 w' v (sha h T) ∧ Below w.heap.size w w'

set_option maxHeartbeats 8000000 in
set_option maxRecDepth 100000 in
theorem StSum_c (g : Nat) (h : Int) (T : List Int) (w : World) (hs : ShaSt w g h T) (hlen : T.length < 2305843009213693952) (ht : ShaTabs w) :
    Calls Tryd.prog 69 #[.pointer (some ⟨g, 0, none⟩)] w (SumPost h T w) := by
  obtain ⟨S, L, r, st, md⟩ := hs.ex
  obtain ⟨N, hN⟩ : ∃ N, N = T.length := ⟨_, rfl⟩
  have HN := Lib.hid hN
  rw [← hN] at st hlen
  have hl := st.len
  have hfar := hs.far
  have hlt := st.lt
  clear hN
  obtain ⟨sz, hsz⟩ : ∃ sz, sz = shaBlock h := ⟨_, rfl⟩
  obtain ⟨fd, hfd⟩ : ∃ fd, fd = sz / 8 := ⟨_, rfl⟩
  have hs2 : Hid ((sz = 64 ∧ fd = 8) ∨ (sz = 128 ∧ fd = 16)) := Lib.hid (by rcases hs.ok.block with ⟨_, e⟩ | ⟨_, e⟩ <;> omega)
  have HSZ := Lib.hid hsz
  have HFD := Lib.hid hfd
  have s1 : 64 ≤ sz := by have := hs2.out; omega
  have s2 : sz ≤ 128 := by have := hs2.out; omega
  clear hsz hfd
  go_enter Tryd.func69, Tryd.ntmps69
  go_wp2_with (first | (refine wpList_load_rw rfl STy (.tmp 17) rfl g rfl STy (stCells h S L r (.ofNat 64 N)) _ st.rw Tryd.underlying108 rfl (by rw [hl]; exact sizeSt) ?_) | (refine wpList_alloc_rw rfl STy rfl (stCells 0 z32 z64 zr 0) 146 zeroSt ?_))
  intro w1 hk1 hs1 hb1
  go_wp2_with (refine wpList_store_rw rfl STy (.tmp 3) (.tmp 18) rfl w.heap.size 0 STy _ (stCells h S L r (.ofNat 64 N)) rfl rfl hk1 (by rw [hl]; exact sizeSt) (stCells_one _ _ _ _ _) (by rw [hl]; decide) ?_)
  intro w2 hk2 hg2 hs2
  have hk3 : Rw w2 w.heap.size STy (stCells h S L r (.ofNat 64 N)) := by
    have e : (stCells 0 z32 z64 zr 0#64).drop 146 = [] := List.drop_of_length_le (by decide)
    simpa [hl, e] using hk2
  have hb2 := hb1.grown hg2 (by omega) (by simp)
  have st2 : St STy w2 w.heap.size h S L r (.ofNat 64 N) := ⟨hk3, st.s8, st.l8, st.r128, st.u8⟩
  have ht2 := ht.below hb2
  have HS2 : Hid (w2.heap.size = w.heap.size + 1) := Lib.hid (by omega)
  clear hk1 hg2 hk2 hk3 hs1 hs2 st hb1
  have hgC : w.heap.size < w2.heap.size := by have := HS2.out; omega
  have ch := st2.c_h
  have cn := st2.c_n
  rw [show wi (BitVec.ofNat 64 N) = (N : Int) by rw [wi, BitVec.toNat_ofNat]; omega] at cn
  go_wp2_with fail
  have bl := fun n => Block_c h (w2.drewN n)
  rw [← HSZ.out] at bl
  go_quiet ((exact quiet_of' (bl _)))
  have e8 : (sz : Int) / 8 = (fd : Int) := by have := HFD.out; omega
  obtain ⟨q, hq⟩ : ∃ q, q = N % sz := ⟨_, rfl⟩
  have eq_ : (N : Int) % (sz : Int) = (q : Int) := by rw [hq]; exact (Int.natCast_emod _ _).symm
  have HQ := Lib.hid hq
  have qlt : q < sz := by rw [hq]; exact Nat.mod_lt _ (by omega)
  obtain ⟨z, hz⟩ : ∃ z, z = gap sz fd N := ⟨_, rfl⟩
  have HZ := Lib.hid hz
  have zlt : z < sz := by rw [hz]; exact gap_le hs2.out N
  have f16 : fd ≤ 16 := by have := hs2.out; omega
  have hnew0 : New w2.heap.size .u8 5 ((w2.drewN nq).alloc (.cells #[.int .u8 128] 5)) (.slice (some ⟨w2.heap.size, 0, none⟩) 1 1) (128 :: List.replicate 0 0) :=
    New.of_blk (xs := [128]) (cells_new .u8 (w2.drewN nq) 5 [128] #[.int .u8 128] rfl _ rfl) (Nat.le_refl _) 1 1 (by omega) (by simp) (by omega)
  have st3 := (st2.drewN nq).alloc (.cells #[.int .u8 128] 5)
  have hb3 : Below w.heap.size w ((w2.drewN nq).alloc (.cells #[.int .u8 128] 5)) := (below_drewN hb2 nq).alloc (by simp; omega) _
  have hc3 : Below w2.heap.size w2 ((w2.drewN nq).alloc (.cells #[.int .u8 128] 5)) := (below_drewN (.refl _ _) nq).alloc (by simp) _
  clear hq hz ch cn bl st2 hb2
  go_wp2_with fail
  go_loopw [7] (fun v wr => ∃ (j : Nat), j ≤ z ∧ New w2.heap.size .u8 5 wr v (128 :: List.replicate j 0) ∧ St STy wr w.heap.size h S L r (.ofNat 64 N) ∧ Below w.heap.size w wr ∧ Below w2.heap.size w2 wr)
    (fun v _ => match v with | .slice _ n _ => z + 1 - n | _ => 0)
  case atStart => exact ⟨0, by omega, hnew0, st3, hb3, hc3⟩
  case round =>
    clear hnew0 st3 hb3 hc3
    obtain ⟨j, hj, hv, st, hb, hc⟩ := hrel
    obtain ⟨a, cap, rfl, hsl⟩ := hv.sl
    obtain ⟨ln, hln⟩ : ∃ ln, ln = (128 :: List.replicate j (0 : Int)).length := ⟨_, rfl⟩
    rw [← hln] at hv ⊢
    have hl1 : ln = 1 + j := by rw [hln]; simp; omega
    have HL := Lib.hid hln
    have HL1 := Lib.hid hl1
    have lb : ln ≤ 128 := by omega
    have hbs := hc.size
    clear hln hl1
    by_cases hjz : j = z
    · have ht1 : (((q : Int) + (ln : Int)) % (sz : Int) != (sz : Int) - (fd : Int)) = false := by
        have := (gap_test hs2.out N j (by rw [← HZ.out]; exact hj)).2 (by rw [← HZ.out]; exact hjz)
        rw [← HQ.out, ← HL1.out] at this
        have e : ((q : Int) + (ln : Int)) % (sz : Int) = (((q + ln) % sz : Nat) : Int) := by rw [Int.natCast_emod]; rfl
        rw [e, this]
        have := hs2.out
        simp
        omega
      obtain rfl : j = z := hjz
      have hv0 : New w2.heap.size .u8 5 wr (.slice a ln cap) (128 :: (List.replicate j 0 ++ (lenB N fd).take (fd - fd))) := by
        rw [show (128 :: (List.replicate j 0 ++ (lenB N fd).take (fd - fd)) : List Int) = 128 :: List.replicate j 0 by simp]
        exact hv
      clear hsl hv
      have HLN := HL1
      go_wp2_with fail
      clear eq_ e8
      go_loopw [7, 8] (fun v t wr => ∃ (c : Nat), c ≤ fd ∧ t = .int .i64 ((c : Int) - 1) ∧ New w2.heap.size .u8 5 wr v (128 :: (List.replicate j 0 ++ (lenB N fd).take (fd - c))) ∧ St STy wr w.heap.size h S L r (.ofNat 64 N) ∧ Below w.heap.size w wr ∧ Below w2.heap.size w2 wr)
        (fun _ t _ => (intOf t + 1).toNat)
      case atStart => exact ⟨fd, Nat.le_refl _, rfl, hv0, st, hb, hc⟩
      case round =>
        clear hv0 st hb hc hbs ht1
        obtain ⟨c, hcf, rfl, hv, st, hb, hc⟩ := hrel
        have hbs := hc.size
        obtain ⟨a1, cap1, rfl, hsl⟩ := hv.sl
        obtain ⟨l2, hl2⟩ : ∃ l2, l2 = (128 :: (List.replicate j (0 : Int) ++ (lenB N fd).take (fd - c))).length := ⟨_, rfl⟩
        rw [← hl2] at hv ⊢
        have HLL : Hid (l2 = 1 + j + (fd - c)) := Lib.hid (by rw [hl2]; simp [lenB_len]; omega)
        have lb2 : l2 ≤ 200 := by have := HLL.out; omega
        have HL2 := Lib.hid hl2
        clear hl2
        rcases Nat.eq_zero_or_pos c with h0 | hp
        · subst h0
          rw [show (((0 : Nat) : Int) - 1) = -1 from rfl]
          rw [Nat.sub_zero, List.take_of_length_le (Nat.le_of_eq (lenB_len N fd)), show (128 :: (List.replicate j 0 ++ lenB N fd) : List Int) = tail_ sz fd N by rw [tail_, ← HZ.out]] at hsl
          have hTl : (tail_ sz fd N).length = l2 := by rw [tail_len, HLL.out, HZ.out]; omega
          have hsS : ShaSt wr w.heap.size h T := ⟨⟨S, L, r, by rw [← HN.out]; exact st, md⟩, hs.ok, hs.u8, by have := ht.top; omega⟩
          have wc := Write_c w.heap.size h T a1 cap1 (tail_ sz fd N) wr hsS hsl (tail_u8 _ _ _) (fun b off ha _ => by have := hv.far b off ha; omega) (ht2.below hc)
          rw [hTl, show T ++ tail_ sz fd N = padded sz fd T by rw [padded, HN.out]] at wc
          have HTL := Lib.hid hTl
          clear hTl hsl hv st hsS
          go_wp2_with fail
          refine wc.mono ?_; rintro e w3 ⟨rfl, hS3, hg3⟩
          have hb3 := hb.grown hg3 (by omega) (by simp)
          obtain ⟨S', L', r', st', md'⟩ := hS3.ex
          obtain ⟨M, hM⟩ : ∃ M, M = BitVec.ofNat 64 (padded sz fd T).length := ⟨_, rfl⟩
          rw [← hM] at st'
          have ch := st'.c_h
          have hw3 := hb3.size
          clear hM wc hg3 hb hc hS3
          by_cases h1 : h = 1
          · subst h1
            have hrg : w3.rangeAt w.heap.size 1 (S'.map v32) := st'.rw.range 1 _ fun j v hv => by
              have hj : j < (S'.map v32).length := (List.getElem?_eq_some_iff.1 hv).1
              rw [stCells, getElem?_cons_succ', List.getElem?_append_left hj]; exact hv
            have sl8 : (S'.map v32).length = 8 := by rw [List.length_map]; exact st'.s8
            have hix := ix32 S' st'.s8
            go_wp2_with (refine wpList_load_mid rfl 99 (.tmp 74) rfl w.heap.size 1 rfl (S'.map v32) _ hrg Tryd.underlying99 rfl (by rw [sl8]; exact size8w) ?_)
            have hsum : Hid (S'.flatMap bytes32 = sha 1 T) := Lib.hid (by
              have := hs2.out
              have e1 : sz = 64 := HSZ.out
              have e2 : fd = 8 := by omega
              rw [md'.s rfl, e1, e2]; rfl)
            have HS8 := Lib.hid st'.s8
            go_loopw [10, 76] (fun v t wr => ∃ (k : Nat), k ≤ 8 ∧ t = .int .i64 (k : Int) ∧ New w3.heap.size .u8 5 wr v ((S'.take k).flatMap bytes32) ∧ Below w3.heap.size w3 wr)
              (fun _ t _ => 8 - (intOf t).toNat)
            case atStart => exact ⟨0, by omega, rfl, .nil _ _ _ _, .refl _ _⟩
            case round =>
              obtain ⟨k, hk, rfl, hv, hb⟩ := hrel
              have hbs := hb.size
              obtain ⟨a2, cap2, rfl, hsl⟩ := hv.sl
              by_cases hlt8 : k < 8
              · have hixk := fun W => hix k hlt8 W
                obtain ⟨l3, hl3⟩ : ∃ l3, l3 = ((S'.take k).flatMap bytes32).length := ⟨_, rfl⟩
                rw [← hl3] at hv ⊢
                have HL3 : Hid (l3 = 4 * k) := Lib.hid (by rw [hl3, flat32_len, List.length_take, HS8.out]; omega)
                have lb3 : l3 ≤ 32 := by have := HL3.out; omega
                have HLL3 := Lib.hid hl3
                obtain ⟨V, hV⟩ : ∃ V, V = (S'.getD k 0).toNat := ⟨_, rfl⟩
                have hVb : V ≤ 4294967295 := by rw [hV]; have := (S'.getD k 0).isLt; omega
                have e : wi (S'.getD k 0) = (V : Int) := by rw [hV]; rfl
                rw [e] at hixk
                have fin : Hid ((S'.take (k + 1)).flatMap bytes32 = (S'.take k).flatMap bytes32 ++ [(V : Int) / 16777216 % 256, (V : Int) / 65536 % 256, (V : Int) / 256 % 256, (V : Int) % 256]) := Lib.hid (by
                  rw [flat32_next _ _ (by rw [HS8.out]; omega), bytes32, ← hV]; rfl)
                have m1 : (V : Int) / 16777216 % 256 = (V : Int) / 16777216 := by omega
                have HM1 := Lib.hid m1
                clear hix hl3 hV e m1 hsl
                go_wp2_with (at_builtin; refine wpList_append_new _ rfl _ _ 25 rfl w3.heap.size 5 .u8 1 Tryd.underlying25 info8s _ _ rfl (hv.alloc _) _ _ 4 [(V : Int) / 16777216, (V : Int) / 65536 % 256, (V : Int) / 256 % 256, (V : Int) % 256] rfl rfl (cells_new .u8 wr 5 [(V : Int) / 16777216, (V : Int) / 65536 % 256, (V : Int) / 256 % 256, (V : Int) % 256] _ rfl _ rfl).cells (by rw [← HLL3.out]; simp only [List.length_cons, List.length_nil]; omega) (by rw [← HLL3.out]; simp only [List.length_cons, List.length_nil]; omega) (by simp; omega) ?_)
                intro v' w' hv' hg' _
                have hlt1 := fun g hg => (hv.lt g hg).1
                have hb' : Below w3.heap.size w3 w' := (hb.alloc hbs _).grown hg' (by simp; omega) hlt1
                rw [← HM1.out, ← fin.out] at hv'
                clear hv hg' hb
                go_wp2_with fail
                go_roundw
                case rel => exact ⟨k + 1, by omega, by go_num, hv', hb'⟩
                case measure => simp [intOf]; omega
              · obtain rfl : k = 8 := by omega
                rw [show ((8 : Nat) : Int) = 8 from rfl]
                rw [List.take_of_length_le (Nat.le_of_eq HS8.out)] at hv hsl
                obtain ⟨l3, hl3⟩ : ∃ l3, l3 = (S'.flatMap bytes32).length := ⟨_, rfl⟩
                rw [List.take_of_length_le (Nat.le_of_eq HS8.out), ← hl3]
                rw [← hl3, hsum.out] at hv
                have hb4 := hb3.trans (hb.mono hw3)
                clear hix hl3 hsl
                go_wp2_with fail
                go_ret
                exact ⟨_, rfl, hv.mono hw3, hb4⟩
          · have hok := hs.ok
            have e1 : (h == 1) = false := beq_false_of_ne h1
            have hrg : w3.rangeAt w.heap.size 9 (L'.map v64) := st'.rw.range 9 _ fun j v hv => by
              have hj : j < (L'.map v64).length := (List.getElem?_eq_some_iff.1 hv).1
              rw [stCells, show 9 + j = 1 + (8 + j) by omega, getElem?_cons_succ', List.getElem?_append_right (by simp [st'.s8]), List.length_map, st'.s8, Nat.add_sub_cancel_left, List.getElem?_append_left hj]; exact hv
            have sl8 : (L'.map v64).length = 8 := by rw [List.length_map]; exact st'.l8
            have hix := ix64 L' st'.l8
            have hsum : Hid ((L'.flatMap bytes64).take (shaSize h) = sha h T ∧ shaSize h ≤ 64 ∧ shaSize h ≠ 0) := Lib.hid (by
              rcases hok with e | e | e
              · exact absurd e h1
              · subst e
                have a1 : sz = 128 := HSZ.out
                have a2 : fd = 16 := by have := hs2.out; omega
                rw [md'.l2 rfl, a1, a2]; exact ⟨rfl, by decide, by decide⟩
              · subst e
                have a1 : sz = 128 := HSZ.out
                have a2 : fd = 16 := by have := hs2.out; omega
                rw [md'.l3 rfl, a1, a2]
                refine ⟨?_, by decide, by decide⟩
                rw [List.take_of_length_le (by rw [flat64_len]; show 8 * 8 ≤ 64; decide)]; rfl)
            have HS8 := Lib.hid st'.l8
            clear h1
            go_wp2_with (refine wpList_load_mid rfl 94 (.tmp 95) rfl w.heap.size 9 rfl (L'.map v64) _ hrg Tryd.underlying94 rfl (by rw [sl8]; exact size8l) ?_)
            go_loopw [10, 97] (fun v t wr => ∃ (k : Nat), k ≤ 8 ∧ t = .int .i64 (k : Int) ∧ New w3.heap.size .u8 5 wr v ((L'.take k).flatMap bytes64) ∧ Below w3.heap.size w3 wr)
              (fun _ t _ => 8 - (intOf t).toNat)
            case atStart => exact ⟨0, by omega, rfl, .nil _ _ _ _, .refl _ _⟩
            case round =>
              obtain ⟨k, hk, rfl, hv, hb⟩ := hrel
              by_cases hlt8 : k < 8
              · have hixk := fun W => hix k hlt8 W
                obtain ⟨Wk, hWk⟩ : ∃ Wk, Wk = L'.getD k 0 := ⟨_, rfl⟩
                rw [← hWk] at hixk
                obtain ⟨V, hV⟩ : ∃ V, V = Wk.toNat := ⟨_, rfl⟩
                have hVb : V ≤ 18446744073709551615 := by rw [hV]; have := Wk.isLt; omega
                have e : wi Wk = (V : Int) := by rw [hV]; rfl
                rw [e] at hixk
                have fin : Hid ((L'.take (k + 1)).flatMap bytes64 = (L'.take k).flatMap bytes64 ++ bytes64 Wk) := Lib.hid (by rw [hWk]; exact flat64_next _ _ (by rw [HS8.out]; omega))
                have HV := Lib.hid hV
                have HPL : Hid (((L'.take k).flatMap bytes64).length = 8 * k) := Lib.hid (by rw [flat64_len, List.length_take, HS8.out]; omega)
                have hv0 : New w3.heap.size .u8 5 wr u10 ((L'.take k).flatMap bytes64 ++ (bytes64 Wk).take (8 - 8)) := by simpa using hv
                obtain ⟨wo, hwo⟩ : ∃ wo : World, wo = wr := ⟨_, rfl⟩
                subst hwo
                have hd8 : decide ((k : Int) < 8) = true := decide_eq_true (by omega)
                clear hix hV e hv hWk
                go_wp2_with fail
                go_loopw [10, 15] (fun v t wr => ∃ (c : Nat), c ≤ 8 ∧ t = .int .i64 (8 * (c : Int) - 8) ∧ New w3.heap.size .u8 5 wr v ((L'.take k).flatMap bytes64 ++ (bytes64 Wk).take (8 - c)) ∧ Below w3.heap.size w3 wr)
                  (fun _ t _ => (intOf t + 8).toNat)
                case atStart => exact ⟨8, by omega, rfl, hv0, hb⟩
                case round =>
                  clear hv0 hb
                  obtain ⟨c, hc8, rfl, hv, hb⟩ := hrel
                  have hbs := hb.size
                  obtain ⟨a2, cap2, rfl, hsl⟩ := hv.sl
                  obtain ⟨l3, hl3⟩ : ∃ l3, l3 = ((L'.take k).flatMap bytes64 ++ (bytes64 Wk).take (8 - c)).length := ⟨_, rfl⟩
                  rw [← hl3] at hv ⊢
                  rcases Nat.eq_zero_or_pos c with h0 | hp
                  · subst h0
                    rw [show (8 * ((0 : Nat) : Int) - 8) = -8 from rfl]
                    rw [Nat.sub_zero, List.take_of_length_le (Nat.le_of_eq (bytes64_len _)), ← fin.out] at hv
                    clear hl3
                    go_wp2_with fail
                    go_roundw
                    case rel => exact ⟨k + 1, by omega, by go_num, hv, hb⟩
                    case measure => simp [intOf]; omega
                  · obtain ⟨c, rfl⟩ : ∃ j, c = j + 1 := ⟨c - 1, by omega⟩
                    rw [show (8 * ((c + 1 : Nat) : Int) - 8) = 8 * (c : Int) by omega]
                    have HL3 : Hid (l3 = 8 * k + (8 - (c + 1))) := Lib.hid (by rw [hl3, List.length_append, HPL.out, List.length_take, bytes64_len]; omega)
                    have lb3 : l3 ≤ 64 := by have := HL3.out; omega
                    have HLL3 := Lib.hid hl3
                    have hx2 : (V : Int) / 2 ^ (8 * c) % 256 = ((V / 256 ^ c % 256 : Nat) : Int) := by
                      rw [show (256 : Nat) ^ c = 2 ^ (8 * c) by rw [show (256 : Nat) = 2 ^ 8 from rfl, ← Nat.pow_mul]]
                      simp only [Int.natCast_emod, Int.natCast_ediv, Int.natCast_pow]
                      rfl
                    have HX2 := Lib.hid hx2
                    clear hl3 hx2 hsl
                    go_wp2_with (at_builtin; refine wpList_append_new _ rfl _ _ 25 rfl w3.heap.size 5 .u8 1 Tryd.underlying25 info8s _ _ rfl (hv.alloc _) _ _ 1 [(V : Int) / 2 ^ (8 * c) % 256] rfl rfl (cells_one _ _ _ _ _ rfl) (by rw [← HLL3.out]; simp only [List.length_cons, List.length_nil]; omega) (by rw [← HLL3.out]; simp only [List.length_cons, List.length_nil]; omega) (by simp; omega) ?_)
                    intro v' w' hv' hg' _
                    have hlt1 := fun g hg => (hv.lt g hg).1
                    have hb' : Below w3.heap.size w3 w' := (hb.alloc hbs _).grown hg' (by simp; omega) hlt1
                    replace hv' : New w3.heap.size .u8 5 w' v' ((L'.take k).flatMap bytes64 ++ (bytes64 Wk).take (8 - c)) := by
                      rw [bytes64_next Wk c (by omega), ← HV.out, ← HX2.out, show 8 - (c + 1) = 7 - c by omega]; exact hv'
                    clear hv hg' hb
                    go_wp2_with fail
                    go_roundw
                    case rel => exact ⟨c, by omega, by go_num, hv', hb'⟩
                    case measure => simp [intOf]; omega
              · obtain rfl : k = 8 := by omega
                rw [show ((8 : Nat) : Int) = 8 from rfl]
                rw [List.take_of_length_le (Nat.le_of_eq HS8.out)] at hv
                obtain ⟨a2, cap2, rfl, hsl⟩ := hv.sl
                obtain ⟨l3, hl3⟩ : ∃ l3, l3 = (L'.flatMap bytes64).length := ⟨_, rfl⟩
                rw [← hl3] at hv
                rw [← hl3]
                have hl64 : l3 = 64 := by rw [hl3, flat64_len, HS8.out]
                have hc64 := (hsl.le)
                have hm64 := (hsl.max)
                rw [← hl3, hl64] at hc64
                obtain ⟨hsm, hs64, hs0⟩ := hsum.out
                have hv2 := hv.cut (shaSize h) (by rw [← hl3, hl64]; exact hs64) (by rw [← hl3, hl64]; omega)
                rw [hsm] at hv2
                obtain ⟨Z, hZ⟩ : ∃ Z, Z = shaSize h := ⟨_, rfl⟩
                have sz' := fun n => Size_c h (wr.drewN n)
                rw [← hZ] at hs64 hv2 hs0
                simp only [← hZ] at sz'
                have chr : wr.cell? ⟨w.heap.size, 0, none⟩ = some (.int .i64 h) := (hb.cell (p := ⟨w.heap.size, 0, none⟩) (by have := st'.lt; omega)).trans ch
                have hb4 := hb3.trans (hb.mono hw3)
                have hcut3 := fun W => cut_3 (P := Tryd.prog) W 25 5 Tryd.underlying25 size8 a2 l3 cap2 Z Z (Nat.le_refl _) (by omega) (Z : Int) (Z : Int) rfl rfl
                clear hix hl3 hsl hv hl64 hZ
                go_wp2_with fail
                go_quiet ((exact quiet_of' (sz' _)))
                go_wp2_with fail
                go_ret
                exact ⟨_, rfl, (hv2.mono hw3).drewN _, below_drewN hb4 _⟩
        · obtain ⟨c, rfl⟩ : ∃ k, c = k + 1 := ⟨c - 1, by omega⟩
          rw [show (((c + 1 : Nat) : Int) - 1) = (c : Int) by omega]
          obtain ⟨x, hx⟩ : ∃ x, x = 8 * N / 256 ^ c % 256 := ⟨_, rfl⟩
          have HX := Lib.hid hx
          by_cases hc8 : c < 8
          · have hx2 : ((N : Int) * 8) / 2 ^ (8 * c) % 256 = (x : Int) := by
              rw [hx, show (256 : Nat) ^ c = 2 ^ (8 * c) by rw [show (256 : Nat) = 2 ^ 8 from rfl, ← Nat.pow_mul]]
              simp only [Int.natCast_emod, Int.natCast_ediv, Int.natCast_mul, Int.natCast_pow]
              rw [Int.mul_comm]; rfl
            have HX2 := Lib.hid hx2
            clear hx hx2
            go_wp2_with (at_builtin; refine wpList_append_new _ rfl _ _ 25 rfl w2.heap.size 5 .u8 1 Tryd.underlying25 info8s _ _ rfl (hv.alloc _) _ _ 1 [(N : Int) * 8 / 2 ^ (8 * c) % 256] rfl rfl (cells_one _ _ _ _ _ rfl) (by have := HLL.out; simp; omega) (by have := HLL.out; simp; omega) (by simp; omega) ?_)
            intro v' w' hv' hg' _
            have hlt1 := fun g hg => (hv.lt g hg).1
            have hb' : Below w.heap.size w w' := (hb.alloc (by omega) _).grown hg' (by simp; omega) fun g hg => by have := hlt1 g hg; omega
            have hc' : Below w2.heap.size w2 w' := (hc.alloc hbs _).grown hg' (by simp; omega) hlt1
            have st' := (st.alloc (.cells #[.int .u8 ((N : Int) * 8 / 2 ^ (8 * c) % 256)] 5)).grown hg' (fun e => by have := hlt1 _ e.symm; omega)
            replace hv' : New w2.heap.size .u8 5 w' v' (128 :: (List.replicate j 0 ++ (lenB N fd).take (fd - c))) := by
              rw [lenB_take_next N fd c (by omega), ← HX.out]
              rw [HX2.out] at hv'; exact hv'
            clear hv hg' hb hc st hsl
            go_wp2_with fail
            go_roundw
            case rel => exact ⟨c, by omega, by go_num, hv', st', hb', hc'⟩
            case measure => simp [intOf]
          · have hx0 : x = 0 := by
              rw [hx, Nat.div_eq_of_lt (by
                have : (256 : Nat) ^ 8 ≤ 256 ^ c := Nat.pow_le_pow_right (by decide) (by omega)
                omega)]
            have hq0 : (N : Int) / 2305843009213693952 = 0 := by omega
            have HX0 := Lib.hid hx0
            clear hx hx0
            by_cases hc9 : c = 8
            · subst hc9
              go_wp2_with (at_builtin; refine wpList_append_new _ rfl _ _ 25 rfl w2.heap.size 5 .u8 1 Tryd.underlying25 info8s _ _ rfl (hv.alloc _) _ _ 1 [0] rfl rfl (cells_one _ _ _ _ _ rfl) (by have := HLL.out; simp; omega) (by have := HLL.out; simp; omega) (by simp; omega) ?_)
              intro v' w' hv' hg' _
              have hlt1 := fun g hg => (hv.lt g hg).1
              have hb' : Below w.heap.size w w' := (hb.alloc (by omega) _).grown hg' (by simp; omega) fun g hg => by have := hlt1 g hg; omega
              have hc' : Below w2.heap.size w2 w' := (hc.alloc hbs _).grown hg' (by simp; omega) hlt1
              have st' := (st.alloc (.cells #[.int .u8 (0)] 5)).grown hg' (fun e => by have := hlt1 _ e.symm; omega)
              replace hv' : New w2.heap.size .u8 5 w' v' (128 :: (List.replicate j 0 ++ (lenB N fd).take (fd - 8))) := by
                rw [lenB_take_next N fd 8 (by omega), ← HX.out]
                rw [HX0.out]; exact hv'
              clear hv hg' hb hc st hsl
              go_wp2_with fail
              go_roundw
              case rel => exact ⟨8, by omega, by go_num, hv', st', hb', hc'⟩
              case measure => simp [intOf]
            · have hc10 : ((c : Int) == 8) = false := beq_false_of_ne (by omega)
              clear hc9
              go_wp2_with (at_builtin; refine wpList_append_new _ rfl _ _ 25 rfl w2.heap.size 5 .u8 1 Tryd.underlying25 info8s _ _ rfl (hv.alloc _) _ _ 1 [0] rfl rfl (cells_one _ _ _ _ _ rfl) (by have := HLL.out; simp; omega) (by have := HLL.out; simp; omega) (by simp; omega) ?_)
              intro v' w' hv' hg' _
              have hlt1 := fun g hg => (hv.lt g hg).1
              have hb' : Below w.heap.size w w' := (hb.alloc (by omega) _).grown hg' (by simp; omega) fun g hg => by have := hlt1 g hg; omega
              have hc' : Below w2.heap.size w2 w' := (hc.alloc hbs _).grown hg' (by simp; omega) hlt1
              have st' := (st.alloc (.cells #[.int .u8 (0)] 5)).grown hg' (fun e => by have := hlt1 _ e.symm; omega)
              replace hv' : New w2.heap.size .u8 5 w' v' (128 :: (List.replicate j 0 ++ (lenB N fd).take (fd - c))) := by
                rw [lenB_take_next N fd c (by omega), ← HX.out]
                rw [HX0.out]; exact hv'
              clear hv hg' hb hc st hsl
              go_wp2_with fail
              go_roundw
              case rel => exact ⟨c, by omega, by go_num, hv', st', hb', hc'⟩
              case measure => simp [intOf]
    · have ht1 : (((q : Int) + (ln : Int)) % (sz : Int) != (sz : Int) - (fd : Int)) = true := by
        have := mt (gap_test hs2.out N j (by rw [← HZ.out]; exact hj)).1 (by rw [← HZ.out]; exact hjz)
        rw [← HQ.out, ← HL1.out] at this
        have e : ((q : Int) + (ln : Int)) % (sz : Int) = (((q + ln) % sz : Nat) : Int) := by rw [Int.natCast_emod]; rfl
        rw [e]
        have := hs2.out
        simp
        omega
      have hjz2 : j < z := by omega
      clear hjz
      go_wp2_with (at_builtin; refine wpList_append_new _ rfl _ _ 25 rfl w2.heap.size 5 .u8 1 Tryd.underlying25 info8s _ _ rfl (hv.alloc _) _ _ 1 [0] rfl rfl (cells_one _ _ _ _ _ rfl) (by simp; omega) (by simp; omega) (by simp; omega) ?_)
      intro v' w' hv' hg' _
      have hlt1 := fun g hg => (hv.lt g hg).1
      have hb' : Below w.heap.size w w' := (hb.alloc (by omega) _).grown hg' (by simp; omega) fun g hg => by have := hlt1 g hg; omega
      have hc' : Below w2.heap.size w2 w' := (hc.alloc hbs _).grown hg' (by simp; omega) hlt1
      have st' := (st.alloc (.cells #[.int .u8 0] 5)).grown hg' (fun e => by have := hlt1 _ e.symm; omega)
      replace hv' : New w2.heap.size .u8 5 w' v' (128 :: List.replicate (j + 1) 0) := by rw [List.replicate_succ']; exact hv'
      obtain ⟨a2, cap2, rfl, hsl2⟩ := hv'.sl
      clear hv hg' hb hc st hsl
      go_wp2_with fail
      go_roundw
      case rel => exact ⟨j + 1, by omega, hv', st', hb', hc'⟩
      case measure => have := HL1.out; simp; omega
end Go.Proofs.YtmbifokiebjmmaaDoor
/- package sha: Sum of parts by its contract. -/
set_option linter.unusedVariables false
set_option linter.unusedSimpArgs false
namespace Go.Sg
open Go.RowKit

/-- A part: its address, its room, its bytes. -/
structure Part where
  a : Option Addr
  cap : Nat
  xs : List Int
def Part.val (p : Part) : Value := .slice p.a p.xs.length p.cap
/-- The parts' bytes, one behind the other. -/
def flat (ps : List Part) : List Int := ps.flatMap (·.xs)
/-- A row of slices of bytes at an address that may be missing where there is none. -/
structure Rows_ (w : World) (A : Option Addr) (ps : List Part) : Prop where
  at_ : 0 < ps.length → ∃ b off, A = some ⟨b, off, none⟩ ∧ ∀ j (h : j < ps.length), w.cell? ⟨b, off + j, none⟩ = some (ps[j]).val
  sl : ∀ p ∈ ps, Sl .u8 w p.a p.cap p.xs
  u8 : ∀ p ∈ ps, U8 p.xs
theorem Rows_.nil (w : World) (A : Option Addr) : Rows_ w A [] := ⟨fun h => by simp at h, fun p hp => by simp at hp, fun p hp => by simp at hp⟩
theorem Rows_.below {w w' : World} {A : Option Addr} {ps : List Part} (h : Rows_ w A ps) (hb : Below w.heap.size w w') : Rows_ w' A ps := by
  refine ⟨fun hp => ?_, fun p hp => (h.sl p hp).below hb, h.u8⟩
  obtain ⟨b, off, rfl, hc⟩ := h.at_ hp
  exact ⟨b, off, rfl, fun j hj => (hb.cell (World.block_lt_of_cell? w _ (hc j hj))).trans (hc j hj)⟩
theorem flat_take_succ (ps : List Part) (k : Nat) (h : k < ps.length) : flat (ps.take (k + 1)) = flat (ps.take k) ++ (ps[k]).xs := by
  unfold flat
  rw [List.take_succ_eq_append_getElem h, List.flatMap_append]; simp
theorem flat_len_le (ps : List Part) (k : Nat) : (flat (ps.take k)).length ≤ (flat ps).length := by
  have h : flat ps = flat (ps.take k) ++ flat (ps.drop k) := by
    unfold flat
    rw [← List.flatMap_append, List.take_append_drop]
  rw [h, List.length_append]; omega
theorem sha_no {h : Int} (hh : ¬ IsHash h) (T : List Int) : sha h T = [] := by
  unfold sha
  rw [if_neg fun e => hh (.inl e), if_neg fun e => hh (.inr (.inl e)), if_neg fun e => hh (.inr (.inr e))]
instance (h : Int) : Decidable (IsHash h) := by unfold IsHash; infer_instance
end Go.Sg
namespace Go.Proofs.YtmbifokiebjmmaaDoor
open Go.RowKit Go.Sg

set_option maxHeartbeats 2000000 in
theorem ShaSum_c (h : Int) (A : Option Addr) (cap : Nat) (ps : List Part) (w : World) (hr : Rows_ w A ps) (hn : ps.length ≤ 9223372036854775807) (hlen : (flat ps).length < 2305843009213693952) (ht : ShaTabs w) :
    Calls Tryd.prog 62 #[.int .i64 h, .slice A ps.length cap] w (SumPost h (flat ps) w) := by
  by_cases hh : IsHash h
  · go_enter Tryd.func62, Tryd.ntmps62
    go_wp2_with fail
    refine (New_c h hh w ht).mono ?_; rintro e w1 ⟨g, rfl, hg, hs, hb⟩
    obtain ⟨N, hN⟩ : ∃ N, N = ps.length := ⟨_, rfl⟩
    rw [← hN] at hn ⊢
    have HN := Lib.hid hN
    clear hN
    go_wp2_with fail
    go_loopw [14] (fun t wr => ∃ k : Nat, k ≤ N ∧ t = .int .i64 (k : Int) ∧ ShaSt wr g h (flat (ps.take k)) ∧ Below w.heap.size w wr)
      (fun t _ => N - (intOf t).toNat)
    case atStart => exact ⟨0, by omega, rfl, hs, hb⟩
    case round =>
      clear hs hb
      obtain ⟨k, hk, rfl, hs, hb⟩ := hrel
      have htr := ht.below hb
      by_cases hlt : k < N
      · have hkp : k < ps.length := by rw [← HN.out]; exact hlt
        have hr1 := hr.below hb
        obtain ⟨b, off, rfl, hc⟩ := hr1.at_ (by omega)
        have hck := hc k hkp
        have hsl := hr1.sl _ (List.getElem_mem hkp)
        have hap := (hr.sl _ (List.getElem_mem hkp)).apart hg
        have hu := hr.u8 _ (List.getElem_mem hkp)
        have hfl := Lib.hid (flat_take_succ ps k hkp)
        obtain ⟨p, hp⟩ : ∃ p, p = ps[k] := ⟨_, rfl⟩
        rw [← hp] at hck hsl hu hfl hap
        have HP := Lib.hid hp
        rw [Part.val] at hck
        have wc := Write_c g h (flat (ps.take k)) p.a p.cap p.xs wr hs hsl hu hap htr
        rw [← hfl.out] at wc
        have hgs := hs.lt
        have hk2 : (k : Int) < (N : Int) := by omega
        clear HP
        clear hc hp hkp hsl hap hs hr1
        go_wp2_with fail
        refine wc.mono ?_; rintro e w2 ⟨rfl, hs2, hg2⟩
        have hb2 := below_then hb hg2 hg hb.size
        clear wc hg2 hb
        go_wp2_with fail
        go_roundw
        case rel => exact ⟨k + 1, by omega, by go_num, hs2, hb2⟩
        case measure => simp [intOf]; omega
      · obtain rfl : k = N := by omega
        rw [List.take_of_length_le (by rw [HN.out]; omega)] at hs
        go_wp2_with fail
        refine (StSum_c g h (flat ps) wr hs hlen htr).mono ?_; rintro e w2 ⟨v, rfl, hv, hb2⟩
        go_wp2_with fail
        go_ret
        exact ⟨v, rfl, hv.mono hb.size, hb.trans (hb2.mono hb.size)⟩
  · go_enter Tryd.func62, Tryd.ntmps62
    go_wp2_with fail
    refine (New_no h hh w).mono ?_; rintro e w1 ⟨rfl, hb⟩
    go_wp2_with fail
    go_ret
    exact ⟨_, rfl, by rw [sha_no hh]; exact .nil _ _ _ _, hb⟩
end Go.Proofs.YtmbifokiebjmmaaDoor
/- signetref4: turn32, turn64, filled by their contracts. -/
set_option linter.unusedVariables false
set_option linter.unusedSimpArgs false
namespace Go.Sg
theorem gap_test2 {sz : Nat} (h : sz = 64 ∨ sz = 128) (n j : Nat) (hj : j ≤ gap sz 8 n) : ((n + 1 + j) % sz = sz - 8) ↔ j = gap sz 8 n := by
  unfold gap at *
  rcases h with rfl | rfl <;> omega
theorem gap_le2 {sz : Nat} (h : sz = 64 ∨ sz = 128) (n : Nat) : gap sz 8 n < sz := by
  unfold gap
  rcases h with rfl | rfl <;> omega
end Go.Sg
namespace Go.Proofs.YtmbifokiebjmmaaDoor
open Go.RowKit Go.Sg

theorem turn32_c (x : BitVec 32) (n k : Nat) (w : World) (h0 : 0 < n) (h1 : n < 32) (hk : n + k = 32) :
    Calls Tryd.prog 71 #[.int .u32 (wi x), .int .i64 (n : Int)] w fun e w' => e = .returned (.int .u32 (wi (turn x n k))) ∧ w = w' := by
  have e2 : (32 : Int) - (n : Int) = (k : Int) := by omega
  have e3 : bits .or .u32 (wi x / 2 ^ n) (wi x * 2 ^ k % 4294967296) = wi (turn x n k) := by
    have a := shl32 x k
    have b := shr_wi x n
    rw [Int.natCast_pow] at a b
    rw [show (2 : Int) = ((2 : Nat) : Int) from rfl, a, b, or32, turn]
  have hk1 : k < 32 := by omega
  clear hk
  go_enter Tryd.func71, Tryd.ntmps71
  go_wp2_with fail
  go_ret
  exact ⟨rfl, rfl⟩
theorem turn64_c (x : BitVec 64) (n k : Nat) (w : World) (h0 : 0 < n) (h1 : n < 64) (hk : n + k = 64) :
    Calls Tryd.prog 72 #[.int .u64 (wi x), .int .i64 (n : Int)] w fun e w' => e = .returned (.int .u64 (wi (turn x n k))) ∧ w = w' := by
  have e2 : (64 : Int) - (n : Int) = (k : Int) := by omega
  have e3 : bits .or .u64 (wi x / 2 ^ n) (IntKind.u64.wrap (wi x * 2 ^ k)) = wi (turn x n k) := by
    have a := shl64 x k
    have b := shr_wi x n
    rw [Int.natCast_pow] at a b
    rw [IntKind.wrap_u64, show (2 : Int) = ((2 : Nat) : Int) from rfl, a, b, or64, turn]
  have hk1 : k < 64 := by omega
  clear hk
  go_enter Tryd.func72, Tryd.ntmps72
  go_wp2_with fail
  go_ret
  exact ⟨rfl, rfl⟩
theorem turn32_any (x : BitVec 32) (a : Int) (w : World) (h0 : 1 ≤ a) (h1 : a ≤ 31) :
    Calls Tryd.prog 71 #[.int .u32 (wi x), .int .i64 a] w fun e w' => e = .returned (.int .u32 (wi (turn x a.natAbs (32 - a.natAbs)))) ∧ w = w' := by
  obtain ⟨n, rfl⟩ : ∃ n : Nat, a = (n : Int) := ⟨a.toNat, by omega⟩
  exact turn32_c x n (32 - n) w (by omega) (by omega) (by omega)
theorem turn64_any (x : BitVec 64) (a : Int) (w : World) (h0 : 1 ≤ a) (h1 : a ≤ 63) :
    Calls Tryd.prog 72 #[.int .u64 (wi x), .int .i64 a] w fun e w' => e = .returned (.int .u64 (wi (turn x a.natAbs (64 - a.natAbs)))) ∧ w = w' := by
  obtain ⟨n, rfl⟩ : ∃ n : Nat, a = (n : Int) := ⟨a.toNat, by omega⟩
  exact turn64_c x n (64 - n) w (by omega) (by omega) (by omega)

def BytesPost (xs : List Int) (w : World) (e : Ending) (w' : World) : Prop := ∃ v, e = .returned v ∧ New w.heap.size .u8 5 w' v xs ∧ Below w.heap.size w w'

set_option maxHeartbeats 4000000 in
set_option maxRecDepth 100000 in
theorem rfilled_c (a : Option Addr) (cap : Nat) (bs : List Int) (sz : Nat) (w : World) (hx : Sl .u8 w a cap bs) (hlen : bs.length ≤ 140737488355000) (hs2 : sz = 64 ∨ sz = 128) :
    Calls Tryd.prog 70 #[.slice a bs.length cap, .int .i64 (sz : Int)] w (BytesPost (padded sz 8 bs) w) := by
  obtain ⟨N, hN⟩ : ∃ N, N = bs.length := ⟨_, rfl⟩
  rw [← hN] at hlen ⊢
  have HN := Lib.hid hN
  have HS2 := Lib.hid hs2
  have s1 : 64 ≤ sz := by omega
  have s2 : sz ≤ 128 := by omega
  have hmx := hx.max
  obtain ⟨z, hz⟩ : ∃ z, z = gap sz 8 N := ⟨_, rfl⟩
  have HZ := Lib.hid hz
  have zlt : z < sz := by rw [hz]; exact gap_le2 hs2 N
  clear hN hs2 hz
  go_enter Tryd.func70, Tryd.ntmps70
  go_wp2_with (at_builtin; refine wpList_append_new _ rfl (.tmp 8) (.tmp 9) 25 rfl w.heap.size 5 .u8 1 Tryd.underlying25 info8s _ [] rfl (New.nil _ _ _ _) _ _ N bs rfl HN.out hx.cells (by rw [← HN.out]; simp; omega) (by rw [← HN.out]; simp; omega) (Nat.le_refl _) ?_)
  intro v1 w1 hv1 hg1 _
  have hb1 : Below w.heap.size w w1 := (Below.refl _ _).grown hg1 (Nat.le_refl _) fun g hg => by simp [Value.ownBlock] at hg
  obtain ⟨a1, c1, rfl, hsl1⟩ := hv1.sl
  rw [← HN.out] at hv1 ⊢
  have hs1' := hb1.size
  clear hg1 hsl1 hx
  go_wp2_with (at_builtin; refine wpList_append_new _ rfl (.tmp 11) (.tmp 12) 25 rfl w.heap.size 5 .u8 1 Tryd.underlying25 info8s _ bs rfl (hv1.alloc _) _ _ 1 [128] rfl rfl (cells_one _ _ _ _ _ rfl) (by rw [← HN.out]; simp; omega) (by rw [← HN.out]; simp; omega) (by simp; omega) ?_)
  intro v2 w2 hv2 hg2 _
  have hlt1 := fun g hg => (hv1.lt g hg).1
  have hb2 : Below w.heap.size w w2 := (hb1.alloc hs1' _).grown hg2 (by simp; omega) hlt1
  have hv2' : New w.heap.size .u8 5 w2 v2 (bs ++ 128 :: List.replicate 0 0) := hv2
  clear hv2 hg2 hb1 hv1
  go_wp2_with fail
  go_loopw [5] (fun v wr => ∃ (j : Nat), j ≤ z ∧ New w.heap.size .u8 5 wr v (bs ++ 128 :: List.replicate j 0) ∧ Below w.heap.size w wr)
    (fun v _ => match v with | .slice _ n _ => N + z + 1 - n | _ => 0)
  case atStart => exact ⟨0, by omega, hv2', hb2⟩
  case round =>
    clear hv2' hb2
    obtain ⟨j, hj, hv, hb⟩ := hrel
    obtain ⟨a, cap, rfl, hsl⟩ := hv.sl
    obtain ⟨ln, hln⟩ : ∃ ln, ln = (bs ++ 128 :: List.replicate j (0 : Int)).length := ⟨_, rfl⟩
    rw [← hln] at hv ⊢
    have hl1 : ln = N + 1 + j := by rw [hln, HN.out]; simp; omega
    have HL := Lib.hid hln
    have HL1 := Lib.hid hl1
    have lb : ln ≤ 140737488355300 := by omega
    have hbs := hb.size
    clear hln hl1
    by_cases hjz : j = z
    · have ht1 : ((ln : Int) % (sz : Int) != (sz : Int) - 8) = false := by
        have := (gap_test2 HS2.out N j (by rw [← HZ.out]; exact hj)).2 (by rw [← HZ.out]; exact hjz)
        rw [← HL1.out] at this
        rw [← Int.natCast_emod, this]
        simp
        omega
      obtain rfl : j = z := hjz
      have hv0 : New w.heap.size .u8 5 wr (.slice a ln cap) (bs ++ 128 :: (List.replicate j 0 ++ (lenB N 8).take (8 - 8))) := by
        rw [show (bs ++ 128 :: (List.replicate j 0 ++ (lenB N 8).take (8 - 8)) : List Int) = bs ++ 128 :: List.replicate j 0 by simp]
        exact hv
      clear hsl hv
      go_wp2_with fail
      clear ht1
      go_loopw [5, 7] (fun v t wr => ∃ (c : Nat), c ≤ 8 ∧ t = .int .i64 ((c : Int) - 1) ∧ New w.heap.size .u8 5 wr v (bs ++ 128 :: (List.replicate j 0 ++ (lenB N 8).take (8 - c))) ∧ Below w.heap.size w wr)
        (fun _ t _ => (intOf t + 1).toNat)
      case atStart => exact ⟨8, Nat.le_refl _, rfl, hv0, hb⟩
      case round =>
        clear hv0 hb hbs
        obtain ⟨c, hcf, rfl, hv, hb⟩ := hrel
        have hbs := hb.size
        obtain ⟨a1, cap1, rfl, hsl⟩ := hv.sl
        obtain ⟨l2, hl2⟩ : ∃ l2, l2 = (bs ++ 128 :: (List.replicate j (0 : Int) ++ (lenB N 8).take (8 - c))).length := ⟨_, rfl⟩
        rw [← hl2] at hv ⊢
        have HLL : Hid (l2 = N + 1 + j + (8 - c)) := Lib.hid (by rw [hl2, HN.out]; simp [lenB_len]; omega)
        have lb2 : l2 ≤ 140737488355200 := by have := HLL.out; omega
        have HL2 := Lib.hid hl2
        clear hl2
        rcases Nat.eq_zero_or_pos c with h0 | hp
        · subst h0
          rw [show (((0 : Nat) : Int) - 1) = -1 from rfl]
          have hv3 : New w.heap.size .u8 5 wr (.slice a1 l2 cap1) (padded sz 8 bs) := by
            rw [padded, tail_, ← HN.out, ← HZ.out]
            rw [Nat.sub_zero, List.take_of_length_le (Nat.le_of_eq (lenB_len N 8))] at hv
            exact hv
          clear hv hsl
          go_wp2_with fail
          go_ret
          exact ⟨_, rfl, hv3, hb⟩
        · obtain ⟨c, rfl⟩ : ∃ k, c = k + 1 := ⟨c - 1, by omega⟩
          rw [show (((c + 1 : Nat) : Int) - 1) = (c : Int) by omega]
          obtain ⟨x, hx⟩ : ∃ x, x = 8 * N / 256 ^ c % 256 := ⟨_, rfl⟩
          have HX := Lib.hid hx
          have x256 : x < 256 := by rw [hx]; exact Nat.mod_lt _ (by decide)
          have hand : bits .and .u64 ((N : Int) * 8 / 2 ^ (8 * c)) 255 = (x : Int) := by
            have e : (N : Int) * 8 / 2 ^ (8 * c) = ((8 * N / 2 ^ (8 * c) : Nat) : Int) := by
              simp only [Int.natCast_ediv, Int.natCast_mul, Int.natCast_pow]
              rw [Int.mul_comm]; rfl
            have hb : 8 * N / 2 ^ (8 * c) ≤ 8 * N := Nat.div_le_self _ _
            rw [e]
            refine (u64_and_nat _ 255 (by omega) (by omega)).trans ?_
            rw [Nat.and_two_pow_sub_one_eq_mod _ 8, hx, show (256 : Nat) ^ c = 2 ^ (8 * c) by rw [show (256 : Nat) = 2 ^ 8 from rfl, ← Nat.pow_mul]]
          clear hx
          go_wp2_with (at_builtin; refine wpList_append_new _ rfl _ _ 25 rfl w.heap.size 5 .u8 1 Tryd.underlying25 info8s _ _ rfl (hv.alloc _) _ _ 1 [(x : Int)] rfl rfl (cells_one _ _ _ _ _ rfl) (by rw [← HL2.out]; simp; omega) (by rw [← HL2.out]; simp; omega) (by simp; omega) ?_)
          intro v' w' hv' hg' _
          have hlt1 := fun g hg => (hv.lt g hg).1
          have hb' : Below w.heap.size w w' := (hb.alloc hbs _).grown hg' (by simp; omega) hlt1
          replace hv' : New w.heap.size .u8 5 w' v' (bs ++ 128 :: (List.replicate j 0 ++ (lenB N 8).take (8 - c))) := by
            rw [lenB_take_next N 8 c (by omega), ← HX.out, show 8 - (c + 1) = 7 - c by omega]
            simpa using hv'
          clear hv hg' hb hsl hand
          go_wp2_with fail
          go_roundw
          case rel => exact ⟨c, by omega, by go_num, hv', hb'⟩
          case measure => simp [intOf]
    · have ht1 : ((ln : Int) % (sz : Int) != (sz : Int) - 8) = true := by
        have := mt (gap_test2 HS2.out N j (by rw [← HZ.out]; exact hj)).1 (by rw [← HZ.out]; exact hjz)
        rw [← HL1.out] at this
        rw [← Int.natCast_emod]
        simp
        omega
      have hjz2 : j < z := by omega
      clear hjz
      go_wp2_with (at_builtin; refine wpList_append_new _ rfl _ _ 25 rfl w.heap.size 5 .u8 1 Tryd.underlying25 info8s _ _ rfl (hv.alloc _) _ _ 1 [0] rfl rfl (cells_one _ _ _ _ _ rfl) (by rw [← HL.out]; simp; omega) (by rw [← HL.out]; simp; omega) (by simp; omega) ?_)
      intro v' w' hv' hg' _
      have hlt1 := fun g hg => (hv.lt g hg).1
      have hb' : Below w.heap.size w w' := (hb.alloc hbs _).grown hg' (by simp; omega) hlt1
      replace hv' : New w.heap.size .u8 5 w' v' (bs ++ 128 :: List.replicate (j + 1) 0) := by rw [List.replicate_succ']; simpa using hv'
      obtain ⟨a2, cap2, rfl, hsl2⟩ := hv'.sl
      clear hv hg' hb hsl
      go_wp2_with fail
      go_roundw
      case rel => exact ⟨j + 1, by omega, hv', hb'⟩
      case measure => have := HL1.out; have := HN.out; simp; omega
end Go.Proofs.YtmbifokiebjmmaaDoor
/- Lists of bytes of the call's own, each with marks behind it in its spare room, laid in a row. No program in sight. -/
set_option linter.unusedVariables false
set_option linter.unusedSimpArgs false
namespace Go.Sg
open Go.RowKit

/-- One number more, where there is room. -/
theorem run_append_in {P : Program} (w : World) (t ty e : TypeId) (k : IntKind) (bytes : Nat) (ht : P.underlying t = some (.slice e)) (hi : (P.info? e).map (fun i => (i.zero, i.size, i.bytes)) = some (some (.int k 0), 1, bytes))
    (g n c : Nat) (xs : List Int) (h : Blk w g k e xs) (hc : c = xs.length) (hn : n < xs.length) (a : Option Addr) (c' : Nat) (x : Int) (hx : Cells k w a [x]) :
    ∃ w', (Builtin.append_ #[t, t] ty #[.slice (some ⟨g, 0, none⟩) n c, .slice a 1 c']).run P w = .ok (.slice (some ⟨g, 0, none⟩) (n + 1) c) w' ∧ Blk w' g k e (xs.set n x) ∧ w.grownBy w' (some g) ∧ w'.heap.size = w.heap.size := by
  obtain ⟨i, hi0, hz, hs, hby⟩ := info1 hi
  obtain ⟨b, off, rfl, hcc⟩ := hx (by simp)
  have hnews : ∀ (j : Nat) (v : Value), ([Value.int k x])[j]? = some v → w.cell? ((⟨b, off, none⟩ : Addr).add j) = some v := by
    intro j v hv
    have hj : j = 0 := by
      have := (List.getElem?_eq_some_iff.1 hv).1
      simp at this; exact this
    subst hj
    have hadd : (⟨b, off, none⟩ : Addr).add 0 = ⟨b, off + 0, none⟩ := by unfold Addr.add; split <;> simp_all
    rw [hadd, hcc 0 (by simp)]
    simpa [nth] using hv
  have hr := run_append_room (P := P) w t ty e i ht hi0 g n c _ h ⟨b, off, none⟩ 1 c' [.int k x] (by simp [hs]) hnews (by intro u hu; simp at hu; subst hu; rfl) (by omega) (by simp [hs]; omega)
  refine ⟨_, hr, ?_, ⟨rfl, rfl, rfl, by simp, fun j _ hk => setRow_other w g j _ (fun ee => hk (by simp [ee]))⟩, by simp⟩
  rw [Blk, setRow_heap w g _ _ e (0, 0) h]
  congr 2
  apply Array.toList_inj.1
  simp only [hs, Nat.mul_one]
  rw [List.set_eq_take_append_cons_drop, if_pos hn]
  simp
theorem wpList_append_in {P : Program} {w : World} {ops : Array Oper} {rest : List Oper} {o : Oper} {a : Act} {Q : Exit → Act → World → Prop} (hgd : o.guard = none) (s x : Operand) (t : TypeId)
    (ho : o.op = .call { callee := .builtin .append, args := #[s, x], argTypes := #[t, t] }) (e : TypeId) (k : IntKind) (bytes : Nat) (ht : P.underlying t = some (.slice e)) (hi : (P.info? e).map (fun i => (i.zero, i.size, i.bytes)) = some (some (.int k 0), 1, bytes))
    (g n c : Nat) (xs : List Int) (hs : a.eval s = .slice (some ⟨g, 0, none⟩) n c) (h : Blk w g k e xs) (hc : c = xs.length) (hn : n < xs.length) (ad : Option Addr) (c' : Nat) (y : Int) (hx : a.eval x = .slice ad 1 c') (hy : Cells k w ad [y])
    (hK : ∀ w', Blk w' g k e (xs.set n y) → w.grownBy w' (some g) → w'.heap.size = w.heap.size → wpList P ops Q rest (a.put o.dst (.slice (some ⟨g, 0, none⟩) (n + 1) c)) w') : wpList P ops Q (o :: rest) a w := by
  refine wpList_plain hgd fun K hK' => ?_
  obtain ⟨w', hr, h1, h2, h3⟩ := run_append_in (P := P) w t o.type e k bytes ht hi g n c xs h hc hn ad c' y hy
  unfold Oper.wp execOp
  simp only [ho, resolve, invoke, builtin, Sem.run_bind, Sem.run_pure, Result.andThen_ok, List.map_toArray, List.map_cons, List.map_nil, hs, hx, hr]
  exact hK' _ _ (hK w' h1 h2 h3)
theorem wpList_make_room {P : Program} (w : World) {ops : Array Oper} {rest : List Oper} {o : Oper} {a : Act} {Q : Exit → Act → World → Prop}
    (hg : o.guard = none) (l c : Operand) (t : TypeId) (hop : o.op = Op.makeSlice t l c) (e : TypeId) (k : IntKind) (bytes : Nat) (ht : P.underlying t = some (.slice e))
    (hi : (P.info? e).map (fun i => (i.zero, i.size, i.bytes)) = some (some (.int k 0), 1, bytes))
    (n : Nat) (C : Int) (hl : a.eval l = .int .i64 0) (hc : a.eval c = .int .i64 C) (hC : C = n) (hb : bytes * n ≤ 281474976710656) (h63 : n ≤ 9223372036854775807)
    (hK : ∀ w', Blk w' w.heap.size k e (List.replicate n 0) → w'.heap.size = w.heap.size + 1 → Below w.heap.size w w' → wpList P ops Q rest (a.put o.dst (.slice (some ⟨w.heap.size, 0, none⟩) 0 n)) w') :
    wpList P ops Q (o :: rest) a w := by
  refine wpList_plain hg fun K hK' => ?_
  obtain ⟨i, hi0, hz, hs, hby⟩ := info1 hi
  have hb' : (bytes : Int) * (n : Int) ≤ 281474976710656 := by
    have h : ((bytes * n : Nat) : Int) ≤ 281474976710656 := by omega
    rwa [Int.natCast_mul] at h
  have hr := run_make (P := P) w t e i (.int k 0) ht hi0 hz .i64 .i64 0 n (by omega) (by omega) (by rw [hby]; exact hb') (by omega)
  simp only [Int.toNat_natCast, hs, Nat.mul_one, Int.toNat_zero] at hr
  subst hC
  unfold Oper.wp
  simp [execOp, hop, hl, hc, hr, Result.andThen]
  refine hK' _ _ (hK _ ?_ (by simp) ((Below.refl _ _).alloc (Nat.le_refl _) _))
  rw [Blk, heap_alloc_new]
  congr 2
  apply Array.toList_inj.1
  rw [show Value.cells (.int k 0) = #[.int k 0] from rfl, toList_madeCells_one]
  simp

/-- The mark behind list i. -/
def mk36 (i : Nat) : Int := 1 + ((i % 250 : Nat) : Int)
theorem mk36_rng (i : Nat) : 0 ≤ mk36 i ∧ mk36 i ≤ 255 := by unfold mk36; omega
def mks36 (i : Nat) : List Int := List.replicate 70 (mk36 i)
theorem mks36_len (i : Nat) : (mks36 i).length = 70 := List.length_replicate
def mval (G : Nat → Nat) (ss : List (List Int)) (j : Nat) : Value := .slice (some ⟨G j, 0, none⟩) (ss.getD j []).length ((ss.getD j []).length + 70)
/-- A row of the call's own lists of bytes, each with marks behind it. -/
structure MkL (B : Nat) (E T : TypeId) (w : World) (l : Value) (G : Nat → Nat) (ss : List (List Int)) : Prop where
  row : NewV B T w l ((List.range ss.length).map (mval G ss))
  blk : ∀ j, j < ss.length → B ≤ G j ∧ Blk w (G j) .u8 E (ss.getD j [] ++ mks36 j)
  apart : ∀ i j, i < ss.length → j < ss.length → i ≠ j → G i ≠ G j
section
variable {B : Nat} {E T : TypeId} {w w' : World} {l : Value} {G : Nat → Nat} {ss : List (List Int)}
theorem MkL.nil (B : Nat) (E T : TypeId) (w : World) (G : Nat → Nat) : MkL B E T w (.slice none 0 0) G [] := ⟨.nil _ _ _, fun j h => by simp at h, fun i j h => by simp at h⟩
theorem MkL.keep (h : MkL B E T w l G ss) (hb : Below w.heap.size w w') : MkL B E T w' l G ss := ⟨h.row.keep hb, fun j hj => ⟨(h.blk j hj).1, (h.blk j hj).2.below hb (h.blk j hj).2.lt⟩, h.apart⟩
theorem MkL.grown {row : Option Nat} (h : MkL B E T w l G ss) (hg : w.grownBy w' row) (h1 : l.ownBlock = none ∨ l.ownBlock ≠ row) (h2 : ∀ j, j < ss.length → some (G j) ≠ row) : MkL B E T w' l G ss := ⟨h.row.kept hg h1, fun j hj => ⟨(h.blk j hj).1, (h.blk j hj).2.grown hg (h2 j hj)⟩, h.apart⟩
theorem MkL.sl (h : MkL B E T w l G ss) : ∃ a c, l = .slice a ss.length c := by
  obtain ⟨a, c, e⟩ := h.row.sl
  rw [List.length_map, List.length_range] at e
  exact ⟨a, c, e⟩
theorem getD_snoc_lt {α : Type} {ss : List α} {s d : α} {j : Nat} (h : j < ss.length) : (ss ++ [s]).getD j d = ss.getD j d := by
  simp [List.getD_eq_getElem?_getD, List.getElem?_append_left h]
theorem getD_snoc_eq {α : Type} {ss : List α} {s d : α} : (ss ++ [s]).getD ss.length d = s := by
  simp [List.getD_eq_getElem?_getD]
theorem mval_congr {G' : Nat → Nat} {ss' : List (List Int)} {j : Nat} (hG : G' j = G j) (hs : ss'.getD j [] = ss.getD j []) : mval G' ss' j = mval G ss j := by
  unfold mval; rw [hG, hs]
/-- One list more. -/
theorem MkL.push {g : Nat} {s : List Int} {v' : Value} (h : MkL B E T w l G ss) (hk : Blk w g .u8 E (s ++ mks36 ss.length)) (hB : B ≤ g) (hne : ∀ j, j < ss.length → G j ≠ g) (hET : E ≠ T)
    (hv : NewV B T w' v' ((List.range ss.length).map (mval G ss) ++ [.slice (some ⟨g, 0, none⟩) s.length (s.length + 70)])) (hg : w.grownBy w' l.ownBlock) (hko : ∀ b, l.ownBlock = some b → b ≠ g ∧ ∀ j, j < ss.length → G j ≠ b) :
    MkL B E T w' v' (fun j => if j = ss.length then g else G j) (ss ++ [s]) := by
  have lo : ∀ j, j < ss.length → mval (fun j => if j = ss.length then g else G j) (ss ++ [s]) j = mval G ss j := fun j hj => mval_congr (if_neg (by omega)) (getD_snoc_lt hj)
  have hi : mval (fun j => if j = ss.length then g else G j) (ss ++ [s]) ss.length = .slice (some ⟨g, 0, none⟩) s.length (s.length + 70) := by
    unfold mval; rw [getD_snoc_eq]; simp
  have ne : ∀ b, some b = l.ownBlock → b ≠ g ∧ ∀ j, j < ss.length → G j ≠ b := fun b e => hko b e.symm
  refine ⟨?_, fun j hj => ?_, fun i j hi' hj hij => ?_⟩
  · rw [List.length_append, List.length_singleton, List.range_succ, List.map_append, List.map_singleton, hi]
    rw [List.map_congr_left (g := mval G ss) fun j hj => lo j (List.mem_range.1 hj)]
    exact hv
  · rw [List.length_append, List.length_singleton] at hj
    by_cases e : j = ss.length
    · subst e
      rw [if_pos rfl, getD_snoc_eq]
      exact ⟨hB, hk.grown hg fun e2 => (ne g e2).1 rfl⟩
    · rw [if_neg e, getD_snoc_lt (by omega)]
      exact ⟨(h.blk j (by omega)).1, (h.blk j (by omega)).2.grown hg fun e2 => (ne (G j) e2).2 j (by omega) rfl⟩
  · rw [List.length_append, List.length_singleton] at hi' hj
    by_cases e1 : i = ss.length <;> by_cases e2 : j = ss.length
    · omega
    · rw [if_pos e1, if_neg e2]; exact (hne j (by omega)).symm
    · rw [if_neg e1, if_pos e2]; exact hne i (by omega)
    · rw [if_neg e1, if_neg e2]; exact h.apart i j (by omega) (by omega) hij
/-- The blocks of the lists are none of the row's. -/
theorem MkL.aside (h : MkL B E T w l G ss) (hET : E ≠ T) {j : Nat} (hj : j < ss.length) : ∀ b, l.ownBlock = some b → G j ≠ b := by
  intro b hb e
  have hk := (h.blk j hj).2
  rcases h.row with ⟨rfl, _⟩ | ⟨g', cp, cs, rfl, hbg, hh, _⟩
  · simp [Value.ownBlock] at hb
  · simp only [Value.ownBlock, Option.some.injEq] at hb
    subst hb e
    have h2 : w.heap[G j]? = _ := hk
    rw [hh] at h2
    simp only [Option.some.injEq, Obj.cells.injEq] at h2
    exact hET h2.2.1.symm
def mparts (G : Nat → Nat) (ss : List (List Int)) : List Part := (List.range ss.length).map fun j => ⟨some ⟨G j, 0, none⟩, (ss.getD j []).length + 70, ss.getD j []⟩
theorem mparts_len : (mparts G ss).length = ss.length := by simp [mparts]
theorem mparts_xs : (mparts G ss).map (·.xs) = ss := by
  unfold mparts
  rw [List.map_map]
  apply List.ext_getElem
  · simp
  · intro i h1 h2
    simp [h2]
/-- As the lists of a call. -/
theorem MkL.rows {a : Option Addr} {n c : Nat} (h : MkL B E T w (.slice a n c) G ss) (hu : ∀ s ∈ ss, U8 s) (hl : ∀ s ∈ ss, s.length ≤ 140737488355328) : Rows_ w a (mparts G ss) := by
  have mem : ∀ j, j < ss.length → ss.getD j [] ∈ ss := fun j hj => by
    rw [List.getD_eq_getElem?_getD, List.getElem?_eq_getElem hj]
    exact List.getElem_mem _
  refine ⟨fun hp => ?_, fun p hp => ?_, fun p hp => ?_⟩
  · rw [mparts_len] at hp
    obtain ⟨g, ha, _, _⟩ := h.row.cell 0 (by simpa using hp)
    refine ⟨g, 0, ha, fun j hj => ?_⟩
    rw [mparts_len] at hj
    obtain ⟨g', ha', _, hc⟩ := h.row.cell j (by simpa using hj)
    rw [ha] at ha'
    cases ha'
    rw [Nat.zero_add, hc]
    simp [mparts, Part.val, mval]
  · obtain ⟨j, hj, rfl⟩ := List.mem_map.1 hp
    have hj' := List.mem_range.1 hj
    have := (h.blk j hj').2.sl (ss.getD j []).length ((ss.getD j []).length + 70) (by omega) (by have := hl _ (mem j hj'); omega)
    rwa [List.take_left] at this
  · obtain ⟨j, hj, rfl⟩ := List.mem_map.1 hp
    exact hu _ (mem j (List.mem_range.1 hj))
end
end Go.Sg
/- HMAC in plain words. No program in sight. -/
set_option linter.unusedVariables false
set_option linter.unusedSimpArgs false
namespace Go.Sg
open Go.RowKit

/-- A byte xor another one. -/
def bx (x y : Int) : Int := bits .xor .u8 x y
theorem wrap8_of (v : BitVec 8) : IntKind.u8.wrap ((v.toNat : Nat) : Int) = (v.toNat : Int) := by
  have := v.isLt
  rw [IntKind.wrap_u8']; omega
theorem bx_eq (x y : Int) : bx x y = ((BitVec.ofInt 8 x ^^^ BitVec.ofInt 8 y).toNat : Int) := by
  unfold bx bits
  simp only [IntKind.bits]
  exact wrap8_of _
theorem bx_rng (x y : Int) : 0 ≤ bx x y ∧ bx x y ≤ 255 := by
  have := (BitVec.ofInt 8 x ^^^ BitVec.ofInt 8 y).isLt
  rw [bx_eq]; omega
theorem ofInt8_inj {x y : Int} (hx : 0 ≤ x ∧ x ≤ 255) (hy : 0 ≤ y ∧ y ≤ 255) (h : BitVec.ofInt 8 x = BitVec.ofInt 8 y) : x = y := by
  have := congrArg BitVec.toNat h
  rw [BitVec.toNat_ofInt, BitVec.toNat_ofInt] at this
  omega
theorem ofInt8_toNat {x : Int} (hx : 0 ≤ x ∧ x ≤ 255) : ((BitVec.ofInt 8 x).toNat : Int) = x := by
  rw [BitVec.toNat_ofInt]; omega
theorem bx_self_iff {x y : Int} (hx : 0 ≤ x ∧ x ≤ 255) (hy : 0 ≤ y ∧ y ≤ 255) : bx x y = x ↔ y = 0 := by
  constructor
  · intro h
    rw [bx_eq] at h
    have h2 : BitVec.ofInt 8 x ^^^ BitVec.ofInt 8 y = BitVec.ofInt 8 x := by
      apply BitVec.eq_of_toNat_eq
      have := ofInt8_toNat hx
      omega
    have h3 : BitVec.ofInt 8 y = BitVec.ofInt 8 0 := by
      have : BitVec.ofInt 8 x ^^^ (BitVec.ofInt 8 x ^^^ BitVec.ofInt 8 y) = BitVec.ofInt 8 x ^^^ BitVec.ofInt 8 x := by rw [h2]
      rw [← BitVec.xor_assoc, BitVec.xor_self, BitVec.zero_xor] at this
      exact this
    exact ofInt8_inj hy (by omega) h3
  · rintro rfl
    rw [bx_eq, show BitVec.ofInt 8 0 = 0#8 from rfl, BitVec.xor_zero]
    exact ofInt8_toNat hx

/-- The key as it is put into a block. -/
def hkeyOf (h : Int) (k : List Int) : List Int := if shaBlock h < k.length then sha h k else k
def key0 (h : Int) (k : List Int) : List Int := hkeyOf h k ++ List.replicate (shaBlock h - (hkeyOf h k).length) 0
def hfill (h : Int) (k : List Int) (x : Int) : List Int := (key0 h k).map fun b => bx b x
def hmac (h : Int) (k d : List Int) : List Int := if IsHash h then sha h (hfill h k 0x5c ++ sha h (hfill h k 0x36 ++ d)) else []

theorem IsHash.size_le {h : Int} (hh : IsHash h) : shaSize h ≤ shaBlock h ∧ 0 < shaSize h ∧ shaSize h ≤ 64 ∧ 64 ≤ shaBlock h ∧ shaBlock h ≤ 128 := by
  rcases hh with rfl | rfl | rfl <;> decide
theorem shaSize_no {h : Int} (hh : ¬ IsHash h) : shaSize h = 0 := by
  unfold shaSize
  rw [if_neg fun e => hh (.inl e), if_neg fun e => hh (.inr (.inl e)), if_neg fun e => hh (.inr (.inr e))]
theorem shaBlock_no {h : Int} (hh : ¬ IsHash h) : shaBlock h = 0 := by
  unfold shaBlock
  rw [if_neg fun e => hh (.inl e), if_neg fun e => hh (.inr (.inl e)), if_neg fun e => hh (.inr (.inr e))]
theorem size_le_block (h : Int) : shaSize h ≤ shaBlock h := by
  by_cases hh : IsHash h
  · exact hh.size_le.1
  · rw [shaSize_no hh]; omega
theorem hkeyOf_len' {h : Int} (k : List Int) : (hkeyOf h k).length ≤ shaBlock h := by
  unfold hkeyOf
  split
  · rw [sha_len]; exact size_le_block h
  · omega
theorem hkeyOf_len {h : Int} (k : List Int) (hh : IsHash h) : (hkeyOf h k).length ≤ shaBlock h := hkeyOf_len' k
theorem key0_len' {h : Int} (k : List Int) : (key0 h k).length = shaBlock h := by
  have := hkeyOf_len' (h := h) k
  simp [key0]; omega
theorem key0_len {h : Int} (k : List Int) (hh : IsHash h) : (key0 h k).length = shaBlock h := by
  have := hkeyOf_len k hh
  simp [key0]; omega
theorem hkeyOf_u8 {h : Int} {k : List Int} (u : U8 k) : U8 (hkeyOf h k) := by
  unfold hkeyOf
  split
  · exact sha_u8 _ _
  · exact u
theorem key0_u8 {h : Int} {k : List Int} (u : U8 k) : U8 (key0 h k) := (hkeyOf_u8 u).append (by omega) (InR.zeros (by omega) _)
theorem map_bx_u8 (l : List Int) (x : Int) : U8 (l.map fun b => bx b x) := .of_mem (by omega) (by
  intro y hy
  obtain ⟨b, _, rfl⟩ := List.mem_map.1 hy
  exact bx_rng _ _)
theorem hfill_u8 (h : Int) (k : List Int) (x : Int) : U8 (hfill h k x) := map_bx_u8 _ _
theorem hfill_len {h : Int} (k : List Int) (x : Int) (hh : IsHash h) : (hfill h k x).length = shaBlock h := by rw [hfill, List.length_map, key0_len k hh]
theorem hmac_no {h : Int} (hh : ¬ IsHash h) (k d : List Int) : hmac h k d = [] := if_neg hh
theorem hmac_is {h : Int} (hh : IsHash h) (k d : List Int) : hmac h k d = sha h (hfill h k 0x5c ++ sha h (hfill h k 0x36 ++ d)) := if_pos hh
theorem hmac_len {h : Int} (hh : IsHash h) (k d : List Int) : (hmac h k d).length = shaSize h := by rw [hmac_is hh, sha_len]
theorem hmac_u8 (h : Int) (k d : List Int) : U8 (hmac h k d) := by
  unfold hmac
  split
  · exact sha_u8 _ _
  · exact .nil (by omega)
/-- A filled key is its own filled key. -/
theorem key0_key0 {h : Int} (k : List Int) (hh : IsHash h) : key0 h (key0 h k) = key0 h k := by
  have hl := key0_len k hh
  have e : hkeyOf h (key0 h k) = key0 h k := by unfold hkeyOf; rw [if_neg (by omega)]
  show hkeyOf h (key0 h k) ++ List.replicate (shaBlock h - (hkeyOf h (key0 h k)).length) 0 = _
  rw [e, hl]; simp
theorem hmac_key0 (h : Int) (k d : List Int) (hh : IsHash h) : hmac h (key0 h k) d = hmac h k d := by
  rw [hmac_is hh, hmac_is hh]; unfold hfill; rw [key0_key0 k hh]
/-- Noughts behind a key that is no longer than a block change nothing. -/
theorem hmac_noughts {h : Int} (k d : List Int) (n : Nat) (hh : IsHash h) (hn : k.length + n ≤ shaBlock h) : hmac h (k ++ List.replicate n 0) d = hmac h k d := by
  have e : key0 h (k ++ List.replicate n 0) = key0 h k := by
    unfold key0 hkeyOf
    rw [if_neg (by simp; omega), if_neg (by omega), List.append_assoc, List.replicate_append_replicate]
    simp only [List.length_append, List.length_replicate]
    rw [show n + (shaBlock h - (k.length + n)) = shaBlock h - k.length by omega]
  rw [hmac_is hh, hmac_is hh]; unfold hfill; rw [e]

def jefe : List Int := [74, 101, 102, 101]
def want_ : List Int := [119, 104, 97, 116, 32, 100, 111, 32, 121, 97, 32, 119, 97, 110, 116, 32, 102, 111, 114, 32, 110, 111, 116, 104, 105, 110, 103, 63]
set_option maxRecDepth 100000 in
theorem hmac_jefe : nth (hmac 1 jefe want_) 0 = 0x5b ∧ nth (hmac 1 jefe want_) 31 = 0x43 := by decide +kernel
end Go.Sg
/- Marked lists of the call's own: stores; lists written over. No program in sight. -/
set_option linter.unusedVariables false
set_option linter.unusedSimpArgs false
namespace Go.Sg
open Go.RowKit
theorem getD_mem {ss : List (List Int)} {j : Nat} (h : j < ss.length) : ss.getD j [] ∈ ss := by
  rw [List.getD_eq_getElem?_getD, List.getElem?_eq_getElem h]
  exact List.getElem_mem _
theorem getD_set' {ss : List (List Int)} {i j : Nat} {x : List Int} (hi : i < ss.length) : (ss.set i x).getD j [] = if i = j then x else ss.getD j [] := by
  rw [List.getD_eq_getElem?_getD, List.getD_eq_getElem?_getD, List.getElem?_set]
  split
  · next h => subst h; simp [hi]
  · rfl
section
variable {B : Nat} {E T : TypeId} {w w' : World} {l : Value} {G : Nat → Nat} {ss : List (List Int)}
theorem MkL.congr {ss' : List (List Int)} (h : MkL B E T w l G ss) (e : ss = ss') : MkL B E T w l G ss' := e ▸ h
/-- The row's place. -/
theorem MkL.place {a : Option Addr} {n c i : Nat} (h : MkL B E T w (.slice a n c) G ss) (hi : i < ss.length) : ∃ g, a = some ⟨g, 0, none⟩ ∧ g < w.heap.size ∧ w.cell? ⟨g, i, none⟩ = some (.slice (some ⟨G i, 0, none⟩) (ss.getD i []).length ((ss.getD i []).length + 70)) := by
  obtain ⟨g, ha, _, hc⟩ := h.row.cell i (by simpa using hi)
  subst ha
  refine ⟨g, rfl, (h.row.lt g rfl).2, ?_⟩
  rw [hc]
  simp [mval]
/-- A number is stored into one of the lists. -/
theorem MkL.set (h : MkL B E T w l G ss) (hET : E ≠ T) {i j : Nat} (hi : i < ss.length) (hj : j < (ss.getD i []).length) (x : Int) :
    w.frozen? ⟨G i, j, none⟩ = false ∧ w.cell? ⟨G i, j, none⟩ = some (.int .u8 (nth (ss.getD i []) j)) ∧ B ≤ G i ∧ MkL B E T (w.setCell ⟨G i, j, none⟩ (.int .u8 x)) l G (ss.set i ((ss.getD i []).set j x)) := by
  obtain ⟨hB, hk⟩ := h.blk i hi
  have hc := hk.cell j (by rw [List.length_append]; omega)
  rw [nth_append_left _ _ _ hj] at hc
  refine ⟨hk.free j, hc, hB, ⟨?_, fun m hm => ?_, fun a b ha hb => ?_⟩⟩
  · have e : (List.range (ss.set i ((ss.getD i []).set j x)).length).map (mval G (ss.set i ((ss.getD i []).set j x))) = (List.range ss.length).map (mval G ss) := by
      rw [List.length_set]
      refine List.map_congr_left fun m hm => ?_
      unfold mval
      rw [getD_set' hi]
      split
      · next e => subst e; rw [List.length_set]
      · rfl
    rw [e]
    refine h.row.kept (grownBy_set w ⟨G i, j, none⟩ (.int .u8 x)) ?_
    cases hl : l.ownBlock with
    | none => exact .inl rfl
    | some q => exact .inr fun e => h.aside hET hi q hl (Option.some.inj e).symm
  · rw [List.length_set] at hm
    refine ⟨(h.blk m hm).1, ?_⟩
    rw [getD_set' hi]
    by_cases e : i = m
    · subst e
      rw [if_pos rfl]
      have := hk.set j x
      rwa [List.set_append_left _ _ hj] at this
    · rw [if_neg e]
      exact (h.blk m hm).2.other (h.apart m i hm hi (fun e2 => e e2.symm)) j _
  · rw [List.length_set] at ha hb
    exact h.apart a b ha hb
end
/-- List j written over. -/
def tl36 (j : Nat) (s : List Int) : List Int := s.map fun x => bx x (mk36 j)
def turnF (ss : List (List Int)) (i k : Nat) : List (List Int) := ss.mapIdx fun j s => if j < i then tl36 j s else if j = i then tl36 i (s.take k) ++ s.drop k else s
def turn36 (ss : List (List Int)) : List (List Int) := ss.mapIdx tl36
theorem turnF_len (ss : List (List Int)) (i k : Nat) : (turnF ss i k).length = ss.length := List.length_mapIdx
theorem turn36_len (ss : List (List Int)) : (turn36 ss).length = ss.length := List.length_mapIdx
theorem tl36_len (j : Nat) (s : List Int) : (tl36 j s).length = s.length := List.length_map _
theorem tl36_u8 (j : Nat) (s : List Int) : U8 (tl36 j s) := .of_mem (by decide) fun x hx => by
  obtain ⟨y, _, rfl⟩ := List.mem_map.1 hx
  exact bx_rng _ _
theorem ext_getD {a b : List (List Int)} (hl : a.length = b.length) (h : ∀ j, j < a.length → a.getD j [] = b.getD j []) : a = b := by
  apply List.ext_getElem hl
  intro j h1 h2
  have := h j h1
  rw [List.getD_eq_getElem?_getD, List.getD_eq_getElem?_getD, List.getElem?_eq_getElem h1, List.getElem?_eq_getElem h2] at this
  exact this
theorem turnF_getD (ss : List (List Int)) (i k j : Nat) (h : j < ss.length) : (turnF ss i k).getD j [] = if j < i then tl36 j (ss.getD j []) else if j = i then tl36 i ((ss.getD j []).take k) ++ (ss.getD j []).drop k else ss.getD j [] := by
  unfold turnF
  rw [List.getD_eq_getElem?_getD, List.getElem?_mapIdx, List.getElem?_eq_getElem h, List.getD_eq_getElem?_getD, List.getElem?_eq_getElem h]
  rfl
theorem turn36_getD (ss : List (List Int)) (j : Nat) (h : j < ss.length) : (turn36 ss).getD j [] = tl36 j (ss.getD j []) := by
  unfold turn36
  rw [List.getD_eq_getElem?_getD, List.getElem?_mapIdx, List.getElem?_eq_getElem h, List.getD_eq_getElem?_getD, List.getElem?_eq_getElem h]
  rfl
theorem turnF_start (ss : List (List Int)) : turnF ss 0 0 = ss := by
  refine ext_getD (turnF_len _ _ _) fun j hj => ?_
  rw [turnF_len] at hj
  rw [turnF_getD _ _ _ _ hj, if_neg (by omega)]
  split <;> rfl
theorem turnF_at (ss : List (List Int)) (i k : Nat) (hi : i < ss.length) : (turnF ss i k).getD i [] = tl36 i ((ss.getD i []).take k) ++ (ss.getD i []).drop k := by
  rw [turnF_getD _ _ _ _ hi, if_neg (by omega), if_pos rfl]
theorem turnF_at_len (ss : List (List Int)) (i k : Nat) (hi : i < ss.length) : ((turnF ss i k).getD i []).length = (ss.getD i []).length := by
  rw [turnF_at _ _ _ hi, List.length_append, tl36_len, List.length_take, List.length_drop]
  omega
theorem turnF_nth (ss : List (List Int)) (i k : Nat) (hi : i < ss.length) (hk : k < (ss.getD i []).length) : nth ((turnF ss i k).getD i []) k = nth (ss.getD i []) k := by
  rw [turnF_at _ _ _ hi]
  have hl : (tl36 i ((ss.getD i []).take k)).length = k := by rw [tl36_len, List.length_take]; omega
  have := nth_append_right (tl36 i ((ss.getD i []).take k)) ((ss.getD i []).drop k) 0
  rw [hl, Nat.add_zero] at this
  rw [this, nth_drop, Nat.add_zero]
theorem turnF_step (ss : List (List Int)) (i k : Nat) (hi : i < ss.length) (hk : k < (ss.getD i []).length) :
    (turnF ss i k).set i (((turnF ss i k).getD i []).set k (bx (nth (ss.getD i []) k) (mk36 i))) = turnF ss i (k + 1) := by
  refine ext_getD (by rw [List.length_set, turnF_len, turnF_len]) fun j hj => ?_
  rw [List.length_set, turnF_len] at hj
  rw [getD_set' (by rw [turnF_len]; exact hi)]
  by_cases e : i = j
  · subst e
    rw [if_pos rfl, turnF_at _ _ _ hi, turnF_at _ _ _ hi]
    have hl : (tl36 i ((ss.getD i []).take k)).length = k := by rw [tl36_len, List.length_take]; omega
    rw [List.set_append_right _ _ (by omega), hl, Nat.sub_self, drop_nth _ _ hk, List.set_cons_zero, take_succ_nth _ _ hk]
    unfold tl36
    rw [List.map_append, List.map_singleton, List.append_assoc]
    rfl
  · rw [if_neg e, turnF_getD _ _ _ _ hj, turnF_getD _ _ _ _ hj, if_neg (fun h => e h.symm : ¬ j = i), if_neg (fun h => e h.symm : ¬ j = i)]
theorem turnF_next (ss : List (List Int)) (i : Nat) : turnF ss i (ss.getD i []).length = turnF ss (i + 1) 0 := by
  refine ext_getD (by rw [turnF_len, turnF_len]) fun j hj => ?_
  rw [turnF_len] at hj
  rw [turnF_getD _ _ _ _ hj, turnF_getD _ _ _ _ hj]
  by_cases c : j < i
  · rw [if_pos c, if_pos (by omega)]
  · rw [if_neg c]
    by_cases e : j = i
    · subst e
      rw [if_pos rfl, if_pos (by omega), List.take_length, List.drop_length, List.append_nil]
    · rw [if_neg e, if_neg (by omega)]
      split
      · next h => subst h; simp [tl36]
      · rfl
theorem turnF_end (ss : List (List Int)) : turnF ss ss.length 0 = turn36 ss := by
  refine ext_getD (by rw [turnF_len, turn36_len]) fun j hj => ?_
  rw [turnF_len] at hj
  rw [turnF_getD _ _ _ _ hj, turn36_getD _ _ hj, if_pos hj]
theorem mem_getD {ss : List (List Int)} {s : List Int} (h : s ∈ ss) : ∃ j, j < ss.length ∧ ss.getD j [] = s := by
  obtain ⟨j, hj, rfl⟩ := List.getElem_of_mem h
  exact ⟨j, hj, by rw [List.getD_eq_getElem?_getD, List.getElem?_eq_getElem hj]; rfl⟩
theorem turn36_u8 (ss : List (List Int)) : ∀ s ∈ turn36 ss, U8 s := by
  intro s hs
  obtain ⟨j, hj, rfl⟩ := mem_getD hs
  rw [turn36_len] at hj
  rw [turn36_getD _ _ hj]
  exact tl36_u8 _ _
theorem turn36_le {ss : List (List Int)} {m : Nat} (h : ∀ s ∈ ss, s.length ≤ m) : ∀ s ∈ turn36 ss, s.length ≤ m := by
  intro s hs
  obtain ⟨j, hj, rfl⟩ := mem_getD hs
  rw [turn36_len] at hj
  rw [turn36_getD _ _ hj, tl36_len]
  exact h _ (getD_mem hj)
end Go.Sg
