import Derived.Test.YtmbifokiebjmmaaDoorZ5
import Derived.Test.YtmbifokiebjmmaaDoorZ15
import Derived.Test.YtmbifokiebjmmaaDoorZ11
import Derived.Test.YtmbifokiebjmmaaDoorZ12
/- package log: hash, leafOf, pair, bytes, split, Leaf by their contracts. -/
set_option linter.unusedVariables false
set_option linter.unusedSimpArgs false
namespace Go.Sg
open Go.RowKit
theorem rows_new (w : World) (E : TypeId) (ps : List Part) (cs : Array Value) (hcs : cs = (ps.map Part.val).toArray) (hs : ∀ p ∈ ps, Sl .u8 w p.a p.cap p.xs) (hu : ∀ p ∈ ps, U8 p.xs) :
    Rows_ (w.alloc (.cells cs E)) (some ⟨w.heap.size, 0, none⟩) ps := by
  subst hcs
  refine ⟨fun _ => ⟨_, 0, rfl, fun j hj => ?_⟩, fun p hp => (hs p hp).below ((Below.refl _ _).alloc (Nat.le_refl _) _), hu⟩
  rw [Nat.zero_add, cell_of_row (w.alloc (.cells (ps.map Part.val).toArray E)) w.heap.size j _ E (0, 0) (Go.heap_alloc_new w _)]
  simp [hj]
/-- The same memory, further on the tape. -/
def Dr (w w' : World) : Prop := ∃ n, w' = w.drewN n
theorem Dr.refl (w : World) : Dr w w := ⟨0, rfl⟩
theorem Dr.drewN {w w' : World} (h : Dr w w') (n : Nat) : Dr w (w'.drewN n) := by obtain ⟨m, rfl⟩ := h; exact ⟨m + n, by simp⟩
/-- The document's hashes. -/
def shaD (bs : List Int) : List Int := sha 1 bs
def leafD (bs : List Int) : List Int := shaD (0 :: bs)
def textD (a b : List Int) : List Int := 1 :: (a ++ b)
def pairD (a b : List Int) : List Int := shaD (textD a b)
theorem shaD_dig (bs : List Int) : Dig (shaD bs) := ⟨by unfold shaD; rw [sha_len]; rfl, sha_u8 _ _⟩
end Go.Sg
namespace Go.Proofs.YtmbifokiebjmmaaDoor
open Go.RowKit Go.Sg
/-- A hash, and nothing that was there has turned. -/
def DigPost (d : List Int) (w : World) (e : Ending) (w' : World) : Prop := e = .returned (dval d) ∧ Below w.heap.size w w'
theorem infoD : (Tryd.prog.info? 64).map (fun i => (i.zero, i.size, i.bytes)) = some (some (dval noDig), 32, 32) := by kernel_rfl
theorem zeroD : (Tryd.prog.info? 64).map (fun i => (i.zero, i.size)) = some (some (.agg (noDig.map (Value.int .u8)).toArray), 32) := by kernel_rfl
theorem sizeD : (Tryd.prog.info? 64).map (·.size) = some 32 := by kernel_rfl
theorem eqD (w : World) (a b : List Int) (ha : Dig a) (hb : Dig b) : (binOp .eql 64 (dval a) (dval b)).run Tryd.prog w = .ok (.bool (decide (a = b))) w :=
  run_eq_dig w _ 5 Tryd.underlying64 Tryd.underlying5 (by kernel_rfl) (by kernel_rfl) a b ha hb
theorem arrD (w : World) (a : Option Addr) (n cap : Nat) (h : 32 ≤ n) : (Instr.arrayAt 64 (.slice a n cap)).run Tryd.prog w = .ok (.pointer a) w := run_array w _ 5 Tryd.underlying64 a n cap h

set_option maxHeartbeats 4000000 in
set_option maxRecDepth 20000 in
theorem hash_c (A : Option Addr) (cap : Nat) (ps : List Part) (w : World) (hr : Rows_ w A ps) (hn : ps.length ≤ 9223372036854775807) (hlen : (flat ps).length < 2305843009213693952) (ht : ShaTabs w) :
    Calls Tryd.prog 51 #[.slice A ps.length cap] w (DigPost (shaD (flat ps)) w) := by
  obtain ⟨n, hn'⟩ : ∃ n, n = ps.length := ⟨_, rfl⟩
  obtain ⟨d, hd⟩ : ∃ d, d = shaD (flat ps) := ⟨_, rfl⟩
  have dd : Dig d := by rw [hd]; exact shaD_dig _
  have sm := fun W (k : Below w.heap.size w W) => ShaSum_c 1 A cap ps W (hr.below k) hn hlen (ht.below k)
  unfold SumPost at sm
  rw [show sha 1 (flat ps) = d from hd.symm, ← hn'] at sm
  rw [← hd, ← hn']
  clear hd hn' hr hn hlen ht
  go_enter Tryd.func51, Tryd.ntmps51
  go_wp2_with (with_reducible refine wpList_alloc_rw rfl 64 rfl (noDig.map (Value.int .u8)) _ zeroD ?_)
  intro w1 hk hs hb
  go_wp2_with fail
  refine (sm _ hb).mono ?_; rintro e w2 ⟨v, rfl, hv, hb2⟩
  obtain ⟨a2, c2, rfl, s2⟩ := hv.sl
  obtain ⟨b, off, rfl, hrg⟩ := s2.dig dd
  have ar := arrD w2 (some ⟨b, off, none⟩) d.length c2 (by rw [dd.1]; omega)
  have hk2 := hk.keep hb2
  clear sm hv s2 hk
  go_wp2_with (first | (refine wpList_load_D rfl 64 _ rfl b off rfl d dd _ hrg Tryd.underlying64 rfl sizeD ?_) | (refine wpList_store_V rfl 64 _ _ rfl w.heap.size 64 noDig d rfl rfl hk2 dig_no dd sizeD ?_))
  intro w3 hk3 hg3 hs3
  go_wp2_with fail
  refine bodyPost_ret (v := dval d) (results_dig rfl rfl hk3 dd Tryd.underlying64 rfl sizeD) rfl ⟨rfl, ?_⟩
  exact (hb.trans (hb2.mono hb.size)).grown hg3 (by have := hb.size; have := hb2.size; omega) (by simp)

/-- hash of parts that were laid just now. -/
theorem hash_new (W : World) (ps : List Part) (n : Nat) (cs : Array Value) (hcs : cs = (ps.map Part.val).toArray) (hn : n = ps.length) (hs : ∀ p ∈ ps, Sl .u8 W p.a p.cap p.xs) (hu : ∀ p ∈ ps, U8 p.xs) (hl : n ≤ 9223372036854775807) (hlen : (flat ps).length < 2305843009213693952) (ht : ShaTabs W) :
    Calls Tryd.prog 51 #[.slice (some ⟨W.heap.size, 0, none⟩) n n] (W.alloc (.cells cs 25)) (DigPost (shaD (flat ps)) W) := by
  have hb := (Below.refl W.heap.size W).alloc (Nat.le_refl _) (.cells cs 25)
  subst hn
  refine (hash_c _ _ ps _ (rows_new W _ ps cs hcs hs hu) hl hlen (ht.below hb)).mono fun e w' p => ⟨p.1, hb.trans (p.2.mono hb.size)⟩

set_option maxHeartbeats 4000000 in
set_option maxRecDepth 20000 in
theorem leafOf_c (a : Option Addr) (cap : Nat) (xs : List Int) (w : World) (hx : Sl .u8 w a cap xs) (ux : U8 xs) (hlen : xs.length ≤ 140737488355328) (ht : ShaTabs w) :
    Calls Tryd.prog 46 #[.slice a xs.length cap] w (DigPost (leafD xs) w) := by
  obtain ⟨n, hn⟩ : ∃ n, n = xs.length := ⟨_, rfl⟩
  obtain ⟨d, hd⟩ : ∃ d, d = leafD xs := ⟨_, rfl⟩
  have dd : Dig d := by rw [hd]; exact shaD_dig _
  have HN := Lib.hid hn
  have HD := Lib.hid hd
  rw [← hn, ← hd]
  clear hn hd
  go_enter Tryd.func46, Tryd.ntmps46
  go_wp2_with (with_reducible refine wpList_alloc_rw rfl 64 rfl (noDig.map (Value.int .u8)) _ zeroD ?_)
  intro w1 hk hs hb
  have al := (Below.refl w1.heap.size w1).alloc (Nat.le_refl _) (.cells #[.int .u8 0] 5)
  have c := hash_new (w1.alloc (.cells #[.int .u8 0] 5)) [⟨some ⟨w1.heap.size, 0, none⟩, 1, [0]⟩, ⟨a, cap, xs⟩] 2 _ rfl rfl (by
    intro p hp
    simp only [List.mem_cons, List.not_mem_nil, or_false] at hp
    rcases hp with rfl | rfl
    · exact ⟨Nat.le_refl 1, by show 1 ≤ 9223372036854775807; omega, cells_one _ _ _ _ _ rfl⟩
    · exact (hx.below hb).below al) (by
    intro p hp
    simp only [List.mem_cons, List.not_mem_nil, or_false] at hp
    rcases hp with rfl | rfl
    · exact .one (by omega) (by omega)
    · exact ux) (by omega) (by simp [flat]; omega) ((ht.below hb).below al)
  rw [show shaD (flat [⟨some ⟨w1.heap.size, 0, none⟩, 1, [0]⟩, ⟨a, cap, xs⟩]) = d by rw [HD.out]; simp [flat, leafD]] at c
  simp only [List.map_cons, List.map_nil, Part.val, List.length_singleton, ← HN.out] at c
  rw [show (w1.alloc (.cells #[.int .u8 0] 5)).heap.size = w1.heap.size + 1 by simp] at c
  have HS := Lib.hid hs
  clear hs
  go_wp2_with fail
  refine c.mono ?_; rintro e w2 ⟨rfl, hb2⟩
  have hk2 := (hk.keep al).keep hb2
  clear c hk
  go_wp2_with (refine wpList_store_V rfl 64 _ _ rfl w.heap.size 64 noDig d rfl rfl hk2 dig_no dd sizeD ?_)
  intro w3 hk3 hg3 hs3
  go_wp2_with fail
  refine bodyPost_ret (v := dval d) (results_dig rfl rfl hk3 dd Tryd.underlying64 rfl sizeD) rfl ⟨rfl, ?_⟩
  have hb3 := hb.trans ((al.trans (hb2.mono al.size)).mono hb.size)
  exact hb3.grown hg3 hb3.size (by simp)

set_option maxHeartbeats 4000000 in
set_option maxRecDepth 20000 in
theorem pair_c (a b : List Int) (w : World) (da : Dig a) (db : Dig b) (ht : ShaTabs w) :
    Calls Tryd.prog 60 #[dval a, dval b] w (DigPost (pairD a b) w) := by
  obtain ⟨d, hd⟩ : ∃ d, d = pairD a b := ⟨_, rfl⟩
  have dd : Dig d := by rw [hd]; exact shaD_dig _
  have HD := Lib.hid hd
  rw [← hd]
  clear hd
  go_enter Tryd.func60, Tryd.ntmps60
  go_wp2_with (refine wpList_box_D rfl 64 _ rfl a rfl ?_)
  intro w1 hk1 hs_ hb1
  have HS_w1 := Lib.hid hs_
  clear hs_
  go_wp2_with (refine wpList_box_D rfl 64 _ rfl b rfl ?_)
  intro w2 hk2 hs_ hb2
  have HS_w2 := Lib.hid hs_
  clear hs_
  go_wp2_with (with_reducible refine wpList_alloc_rw rfl 64 rfl (noDig.map (Value.int .u8)) _ zeroD ?_)
  intro w3 hk3 hs_ hb3
  have HS_w3 := Lib.hid hs_
  clear hs_
  have hk1' := (hk1.keep hb2).keep hb3
  have hk2' := hk2.keep hb3
  have hB := (hb1.trans (hb2.mono hb1.size)).trans (hb3.mono (Nat.le_trans hb1.size hb2.size))
  have l3 : w.heap.size ≤ w2.heap.size := Nat.le_trans hb1.size hb2.size
  obtain ⟨g1, hg1⟩ : ∃ g, g = w.heap.size := ⟨_, rfl⟩
  obtain ⟨g2, hg2⟩ : ∃ g, g = w1.heap.size := ⟨_, rfl⟩
  obtain ⟨g3, hg3⟩ : ∃ g, g = w2.heap.size := ⟨_, rfl⟩
  rw [← hg1] at hk1' ⊢
  rw [← hg2] at hk2' ⊢
  rw [← hg3] at hk3 l3 ⊢
  clear hk1 hk2 hb1 hb2 hb3 hg1 hg2 hg3
  go_wp2_with fail
  refine wp_region_any (by kernel_rfl) ?_
  change wpAny _ _ _ _ _ _ _ (World.drew _)
  refine wpAny_take (i := 1) (v := ?_) rfl (by kernel_rfl) (by kernel_rfl) (by kernel_rfl) (fun _ _ _ h => h) (Or.inl ⟨by rfl, ?_⟩) ?_
  rotate_left
  · intro w; go_simp; try with_reducible rfl
  refine wpAny_take (i := 2) (v := ?_) rfl (by kernel_rfl) (by kernel_rfl) (by kernel_rfl) (fun _ _ _ h => h) (Or.inl ⟨by rfl, ?_⟩) ?_
  rotate_left
  · intro w; go_simp; try with_reducible rfl
  refine wpAny_seqI [0, 3, 4, 5] _ _ _ (by kernel_rfl) ?_
  simp only [pickL, List.drop_succ_cons, List.drop_zero, List.take_succ_cons, List.take_zero, List.cons_append, List.nil_append]
  obtain ⟨W, hW⟩ : ∃ W, W = World.drew w3 := ⟨_, rfl⟩
  rw [← hW]
  have k1 : Rw W g1 64 (a.map (Value.int .u8)) := by rw [hW]; exact hk1'.drewN 1
  have k2 : Rw W g2 64 (b.map (Value.int .u8)) := by rw [hW]; exact hk2'.drewN 1
  have k3 : Rw W g3 64 (noDig.map (Value.int .u8)) := by rw [hW]; exact hk3.drewN 1
  have hB1 : Below w.heap.size w W := by rw [hW]; exact below_drewN hB 1
  clear hk1' hk2' hk3 hB hW
  have al := (Below.refl W.heap.size W).alloc (Nat.le_refl _) (.cells #[.int .u8 1] 5)
  have c := hash_new (W.alloc (.cells #[.int .u8 1] 5)) [⟨some ⟨W.heap.size, 0, none⟩, 1, [1]⟩, ⟨some ⟨g1, 0, none⟩, 32, a⟩, ⟨some ⟨g2, 0, none⟩, 32, b⟩] 3 _ rfl rfl (by
    intro p hp
    simp only [List.mem_cons, List.not_mem_nil, or_false] at hp
    rcases hp with rfl | rfl | rfl
    · exact ⟨Nat.le_refl 1, by show 1 ≤ 9223372036854775807; omega, cells_one _ _ _ _ _ rfl⟩
    · exact (k1.keep al).dsl da
    · exact (k2.keep al).dsl db) (by
    intro p hp
    simp only [List.mem_cons, List.not_mem_nil, or_false] at hp
    rcases hp with rfl | rfl | rfl
    · exact .one (by omega) (by omega)
    · exact da.2
    · exact db.2) (by omega) (by simp [flat, da.1, db.1]) ((ht.below hB1).below al)
  rw [show shaD (flat [⟨some ⟨W.heap.size, 0, none⟩, 1, [1]⟩, ⟨some ⟨g1, 0, none⟩, 32, a⟩, ⟨some ⟨g2, 0, none⟩, 32, b⟩]) = d by rw [HD.out]; simp [flat, pairD, textD]] at c
  simp only [List.map_cons, List.map_nil, Part.val, List.length_singleton, da.1, db.1] at c
  rw [show (W.alloc (.cells #[.int .u8 1] 5)).heap.size = W.heap.size + 1 by simp] at c
  go_wp2_with fail
  refine c.mono ?_; rintro e w4 ⟨rfl, hb4⟩
  have k3' := (k3.keep al).keep hb4
  have hB4 := hB1.trans ((al.trans (hb4.mono al.size)).mono hB1.size)
  clear c k1 k2 k3
  go_wp2_with (refine wpList_store_V rfl 64 _ _ rfl g3 64 noDig d rfl rfl k3' dig_no dd sizeD ?_)
  intro w5 hk5 hg5 hs_
  have HS_w5 := Lib.hid hs_
  clear hs_
  go_wp2_with fail
  refine bodyPost_ret (v := dval d) (results_dig rfl rfl hk5 dd Tryd.underlying64 rfl sizeD) rfl ⟨rfl, ?_⟩
  exact hB4.grown hg5 hB4.size (by intro g hg; cases hg; exact l3)

set_option maxHeartbeats 4000000 in
set_option maxRecDepth 20000 in
theorem split_c (n : Nat) (w : World) (h2 : 2 ≤ n) (hm : n ≤ 9223372036854775807) :
    Calls Tryd.prog 59 #[.int .i64 (n : Int)] w (fun e w' => ∃ k j : Nat, e = .returned (.int .i64 (k : Int)) ∧ k = 2 ^ j ∧ k < n ∧ n ≤ 2 ^ (j + 1) ∧ w' = w) := by
  go_enter Tryd.func59, Tryd.ntmps59
  go_wp2_with fail
  go_loopw [3] (fun t wr => ∃ k j : Nat, t = .int .i64 (k : Int) ∧ k = 2 ^ j ∧ k < n ∧ wr = w) (fun t _ => n - (intOf t).toNat)
  case atStart => exact ⟨1, 0, rfl, rfl, by omega, rfl⟩
  case round =>
    obtain ⟨k, j, rfl, hk, hj, hw⟩ := hrel
    subst hw
    have HK := Lib.hid hk
    have E2 := Lib.hid (pow2_succ j)
    have p0 : 0 < k := by rw [hk]; exact Nat.pow_pos (by omega)
    clear hk
    have ki : (k : Int) < (n : Int) := by omega
    have ni : (n : Int) ≤ 9223372036854775807 := by omega
    by_cases hlt : k < n - k
    · have hd : decide ((k : Int) < (n : Int) - (k : Int)) = true := decide_eq_true (by omega)
      have hi : (k : Int) < (n : Int) - (k : Int) := by omega
      go_wp2_with fail
      go_roundw
      case rel => exact ⟨k * 2, j + 1, by go_num, by rw [E2.out, ← HK.out]; omega, by omega, by first | trivial | rfl⟩
      case measure => simp [intOf]; omega
    · have hd : decide ((k : Int) < (n : Int) - (k : Int)) = false := decide_eq_false (by omega)
      have hi : ¬ (k : Int) < (n : Int) - (k : Int) := by omega
      go_wp2_with fail
      go_ret
      exact ⟨k, rfl, j, HK.out, hj, by rw [E2.out, ← HK.out]; omega, rfl⟩

set_option maxHeartbeats 4000000 in
set_option maxRecDepth 20000 in
theorem bytes_c (d : List Int) (w : World) (dd : Dig d) : Calls Tryd.prog 41 #[dval d] w (BytesPost d w) := by
  go_enter Tryd.func41, Tryd.ntmps41
  go_wp2_with (refine wpList_box_D rfl 64 _ rfl d rfl ?_)
  intro w1 hk1 hs_ hb1
  have HS_w1 := Lib.hid hs_
  clear hs_
  obtain ⟨g1, hg1⟩ : ∃ g, g = w.heap.size := ⟨_, rfl⟩
  rw [← hg1] at hk1 ⊢
  have hle : w.heap.size ≤ w1.heap.size := hb1.size
  clear hg1
  go_wp2_with (at_make; refine wpList_make_blk _ rfl _ _ 25 rfl 5 .u8 1 Tryd.underlying25 info8s 32 _ _ rfl rfl rfl rfl (by omega) (by omega) ?_)
  intro w2 hk2 hs2 hb2
  have s1 := (hk1.keep hb2).dsl dd
  obtain ⟨g2, hg2⟩ : ∃ g, g = w1.heap.size := ⟨_, rfl⟩
  rw [← hg2] at hk2 hle ⊢
  have hB := hb1.trans (hb2.mono hb1.size)
  clear hg2 hk1 hb1 hb2 hs2
  have DL := Lib.hid dd.1
  go_wp2_with (with_reducible refine wpList_copy_blk rfl _ _ 25 25 rfl 5 Tryd.underlying25 size8 _ g2 0 _ _ _ _ _ rfl rfl .u8 _ d hk2 s1.cells DL.out (fun _ _ => rfl) (by simp) ?_)
  intro w3 hk3 hg3 hs3
  go_wp2_with fail
  go_ret
  refine ⟨_, rfl, ?_, hB.grown hg3 hB.size (by intro g hg; cases hg; exact hle)⟩
  have hk4 : Blk w3 g2 .u8 5 d := by
    rwa [List.take_of_length_le (by have := DL.out; omega)] at hk3
  have := New.of_blk hk4 hle 32 32 (by omega) (by have := DL.out; omega) (by omega)
  rwa [List.take_of_length_le (by have := DL.out; omega)] at this

set_option maxHeartbeats 4000000 in
set_option maxRecDepth 20000 in
theorem Leaf_c (a : Option Addr) (cap : Nat) (xs : List Int) (w : World) (hx : Sl .u8 w a cap xs) (ux : U8 xs) (hlen : xs.length ≤ 140737488355328) (ht : ShaTabs w) :
    Calls Tryd.prog 17 #[.slice a xs.length cap] w (BytesPost (leafD xs) w) := by
  have c := leafOf_c a cap xs w hx ux hlen ht
  obtain ⟨n, hn⟩ : ∃ n, n = xs.length := ⟨_, rfl⟩
  obtain ⟨d, hd⟩ : ∃ d, d = leafD xs := ⟨_, rfl⟩
  have dd : Dig d := by rw [hd]; exact shaD_dig _
  rw [← hn, ← hd] at c
  rw [← hn, ← hd]
  clear hn hd
  go_enter Tryd.func17, Tryd.ntmps17
  go_wp2_with fail
  refine c.mono ?_; rintro e w2 ⟨rfl, hb2⟩
  have c2 := bytes_c d w2 dd
  clear c
  go_wp2_with fail
  refine c2.mono ?_; rintro e w3 ⟨v, rfl, hv, hb3⟩
  go_wp2_with fail
  go_ret
  exact ⟨v, rfl, hv.mono hb2.size, hb2.trans (hb3.mono hb2.size)⟩
end Go.Proofs.YtmbifokiebjmmaaDoor
/- What shows that a list has grown, in plain words. No program in sight. -/
set_option linter.unusedVariables false
set_option linter.unusedSimpArgs false
namespace Go.Sg
open Go.RowKit
/-- Do they show that the list has grown? -/
def growP (old : List Int) (n : Int) (root : List Int) (m : Int) (p : List (List Int)) : Prop :=
  (old.length = 32 ∧ root.length = 32) ∧ (∀ x ∈ p, x.length = 32) ∧ 0 ≤ n ∧ n ≤ m ∧
    (if n = 0 then p = [] ∧ old = shaD [] ∧ (0 < m ∨ root = old) else bothH pairD 63 m.toNat n.toNat true old p = some (old, root))
instance (old : List Int) (n : Int) (root : List Int) (m : Int) (p : List (List Int)) : Decidable (growP old n root m p) := by unfold growP; infer_instance
end Go.Sg
