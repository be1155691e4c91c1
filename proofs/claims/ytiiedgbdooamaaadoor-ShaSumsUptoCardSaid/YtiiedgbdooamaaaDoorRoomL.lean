/- signetlaw4: roomy, spared, whole, rooms, by their contracts. -/
import Derived.Test.YtiiedgbdooamaaaDoorRefS
import Derived.Test.YtiiedgbdooamaaaDoorRowsV
import Derived.Test.YtiiedgbdooamaaaDoorOpen
set_option linter.unusedVariables false
set_option linter.unusedSimpArgs false
namespace Go.Sg
open Go.RowKit
/-- The marks behind a roomy copy. -/
def m9 : List Int := List.replicate 9 165
theorem m9_len : m9.length = 9 := rfl
/-- The bytes of part j. -/
def px (ps : List Part) (j : Nat) : List Int := ((ps[j]?).map (·.xs)).getD []
theorem px_lt (ps : List Part) (j : Nat) (h : j < ps.length) : px ps j = (ps[j]).xs := by simp [px, h]
theorem flat_px (ps : List Part) (k : Nat) (hk : k ≤ ps.length) : (List.range k).flatMap (px ps) = flat (ps.take k) := by
  induction k with
  | zero => simp [flat]
  | succ k ih => rw [List.range_succ, List.flatMap_append, ih (by omega), flat_take_succ ps k (by omega)]; simp [px_lt ps k (by omega)]
theorem px_le_flat (ps : List Part) (j : Nat) (h : j < ps.length) : (px ps j).length ≤ (flat ps).length := by
  have h1 := flat_take_succ ps j h
  have h2 := flat_len_le ps (j + 1)
  rw [h1, List.length_append] at h2
  rw [px_lt ps j h]; omega

/-- Roomy copies, each in a row of its own. -/
def roomVal (G : Nat → Nat) (Z : Nat → List Int) (j : Nat) : Value := .slice (some ⟨G j, 0, none⟩) (Z j).length ((Z j).length + 9)
structure Rooms (B : Nat) (E F : TypeId) (w : World) (v : Value) (n : Nat) (G : Nat → Nat) (Z : Nat → List Int) : Prop where
  row : NewV B F w v ((List.range n).map (roomVal G Z))
  blk : ∀ j, j < n → Blk w (G j) .u8 E (Z j ++ m9)
  far : ∀ j, j < n → B ≤ G j
  inj : ∀ i j, i < n → j < n → G i = G j → i = j
  own : ∀ j, j < n → v.ownBlock ≠ some (G j)
section
variable {B : Nat} {E F : TypeId} {w w' : World} {v : Value} {n : Nat} {G : Nat → Nat} {Z : Nat → List Int}
theorem Rooms.keep (h : Rooms B E F w v n G Z) (hb : Below w.heap.size w w') : Rooms B E F w' v n G Z :=
  ⟨h.row.keep hb, fun j hj => (h.blk j hj).below hb (h.blk j hj).lt, h.far, h.inj, h.own⟩
theorem Rooms.drew (h : Rooms B E F w v n G Z) : Rooms B E F w.drew v n G Z := h.keep ((Below.refl _ _).drew)
theorem Rooms.set (h : Rooms B E F w v n G Z) (i : Nat) (hi : i < n) (k : Nat) (hk : k < (Z i).length) (y : Int) :
    Rooms B E F (w.setCell ⟨G i, k, none⟩ (.int .u8 y)) v n G (fun j => if j = i then (Z i).set k y else Z j) := by
  have hlen : ∀ j, ((fun j => if j = i then (Z i).set k y else Z j) j).length = (Z j).length := by
    intro j
    by_cases e : j = i
    · subst e; simp
    · simp [e]
  refine ⟨?_, fun j hj => ?_, h.far, h.inj, h.own⟩
  · have e : (List.range n).map (roomVal G (fun j => if j = i then (Z i).set k y else Z j)) = (List.range n).map (roomVal G Z) := by
      apply List.map_congr_left
      intro j _
      unfold roomVal
      rw [hlen j]
    rw [e]
    exact h.row.kept (grownBy_set w ⟨G i, k, none⟩ (.int .u8 y)) (.inr (h.own i hi))
  · by_cases e : j = i
    · subst e
      have := (h.blk j hj).set k y
      rw [List.set_append_left _ _ hk] at this
      simpa using this
    · have := (h.blk j hj).other (show G j ≠ G i from fun e2 => e (h.inj j i hj hi e2)) k (.int .u8 y)
      simpa [e] using this
/-- The roomy copies as parts of a sum. -/
def roomParts (G : Nat → Nat) (Z : Nat → List Int) (n : Nat) : List Part := (List.range n).map fun j => Part.mk (some ⟨G j, 0, none⟩) ((Z j).length + 9) (Z j)
theorem blk_sl {g : Nat} {xs : List Int} (h : Blk w g .u8 E (xs ++ m9)) (hl : xs.length ≤ 140737488350000) : Sl .u8 w (some ⟨g, 0, none⟩) (xs.length + 9) xs := by
  have := h.sl xs.length (xs.length + 9) (by omega) (by omega)
  rwa [List.take_left] at this
theorem Rooms.rows {a : Option Addr} {m cap : Nat} (h : Rooms B E F w (.slice a m cap) n G Z) (hl : ∀ j, j < n → (Z j).length ≤ 140737488350000) (hu : ∀ j, j < n → U8 (Z j)) : Rows_ w a (roomParts G Z n) := by
  have e : (List.range n).map (roomVal G Z) = (roomParts G Z n).map Part.val := by
    unfold roomParts
    rw [List.map_map]
    rfl
  have hr := h.row
  rw [e] at hr
  refine hr.rows (fun p hp => ?_) (fun p hp => ?_)
  · simp only [roomParts, List.mem_map, List.mem_range] at hp
    obtain ⟨j, hj, rfl⟩ := hp
    exact blk_sl (h.blk j hj) (hl j hj)
  · simp only [roomParts, List.mem_map, List.mem_range] at hp
    obtain ⟨j, hj, rfl⟩ := hp
    exact hu j hj
theorem roomParts_len (G : Nat → Nat) (Z : Nat → List Int) (n : Nat) : (roomParts G Z n).length = n := by simp [roomParts]
theorem roomParts_flat (G : Nat → Nat) (Z : Nat → List Int) (n : Nat) : flat (roomParts G Z n) = (List.range n).flatMap Z := by
  unfold flat roomParts
  rw [List.flatMap_map]
theorem flat_len_eq (Z Y : Nat → List Int) (n : Nat) (h : ∀ j, j < n → (Z j).length = (Y j).length) : ((List.range n).flatMap Z).length = ((List.range n).flatMap Y).length := by
  rw [List.length_flatMap, List.length_flatMap]
  congr 1
  apply List.map_congr_left
  intro j hj
  exact h j (List.mem_range.1 hj)
theorem flat_u8 (Z : Nat → List Int) (n : Nat) (h : ∀ j, j < n → U8 (Z j)) : U8 ((List.range n).flatMap Z) := .of_mem (by omega) (by
  intro x hx
  rw [List.mem_flatMap] at hx
  obtain ⟨j, hj, hx⟩ := hx
  exact (h j (List.mem_range.1 hj)).mem x hx)
end
end Go.Sg
namespace Go.Proofs.YtiiedgbdooamaaaDoor
open Go.RowKit Go.Sg

theorem infoS4 : (Tryd.prog.info? 29).map (fun i => (i.zero, i.size, i.bytes)) = some (some (.slice none 0 0), 1, 24) := by kernel_rfl
def RoomPost (xs : List Int) (w : World) (e : Ending) (w' : World) : Prop := ∃ g, e = .returned (.slice (some ⟨g, 0, none⟩) xs.length (xs.length + 9)) ∧ w.heap.size ≤ g ∧ Blk w' g .u8 5 (xs ++ m9) ∧ Below w.heap.size w w'

set_option maxHeartbeats 4000000 in
set_option maxRecDepth 20000 in
theorem roomy_c (a : Option Addr) (cap : Nat) (xs : List Int) (w : World) (hx : Sl .u8 w a cap xs) (hl : xs.length ≤ 140737488350000) :
    Calls Tryd.prog 24 #[.slice a xs.length cap] w (RoomPost xs w) := by
  obtain ⟨n, hn⟩ : ∃ n, n = xs.length := ⟨_, rfl⟩
  have HN := Lib.hid hn
  rw [← hn] at hl ⊢
  clear hn
  go_enter Tryd.func24, Tryd.ntmps24
  go_wp2_with (at_make; refine wpList_make_blk _ rfl _ _ 29 rfl 5 .u8 1 Tryd.underlying29 info8s (n + 9) _ _ rfl rfl (by omega) (by omega) (by omega) (by omega) ?_)
  intro w1 hk1 hs1 hb1
  have hx1 := hx.below hb1
  obtain ⟨G, hG⟩ : ∃ G, G = w.heap.size := ⟨_, rfl⟩
  rw [← hG] at hk1 ⊢
  have hge : w.heap.size ≤ G := by omega
  clear hG hx hs1
  go_wp2_with (with_reducible refine wpList_copy_blk rfl _ _ 29 29 rfl 5 Tryd.underlying29 size8 _ G 0 _ _ _ _ _ rfl rfl .u8 _ xs hk1 hx1.cells HN.out.symm (fun _ _ => rfl) (by rw [List.length_replicate]; omega) ?_)
  intro w2 hk2 hg2 hs2
  have hb2 : Below w.heap.size w w2 := hb1.grown hg2 (by have := hb1.size; omega) (by simp; omega)
  have hk3 : Blk w2 G .u8 5 (xs ++ (List.replicate 0 165 ++ List.replicate (9 - 0) 0)) := by
    have e : xs.take (n + 9) ++ List.replicate (n + 9 - n) (0 : Int) = xs ++ (List.replicate 0 165 ++ List.replicate (9 - 0) 0) := by
      rw [List.take_of_length_le (by rw [← HN.out]; omega), show n + 9 - n = 9 by omega]
      rfl
    have h2 := hk2
    rw [← e]
    simpa [Nat.min_eq_left (show n ≤ n + 9 by omega)] using h2
  clear hk1 hk2 hg2 hb1 hs2 hx1
  go_wp2_with fail
  go_loopw [4] (fun t wr => ∃ j : Nat, j ≤ 9 ∧ t = .int .i64 ((n + j : Nat) : Int) ∧ Blk wr G .u8 5 (xs ++ (List.replicate j 165 ++ List.replicate (9 - j) 0)) ∧ Below w.heap.size w wr)
    (fun t _ => n + 9 - (intOf t).toNat)
  case atStart => exact ⟨0, by omega, by rw [Nat.add_zero], hk3, hb2⟩
  case round =>
    clear hk3 hb2
    obtain ⟨j, hj, rfl, hk, hb⟩ := hrel
    obtain ⟨i, hi⟩ : ∃ i, i = n + j := ⟨_, rfl⟩
    rw [← hi]
    have HI := Lib.hid hi
    by_cases hlt : j < 9
    · have ll : (xs ++ (List.replicate j (165 : Int) ++ List.replicate (9 - j) 0)).length = n + 9 := by simp [HN.out]; omega
      have c0 := hk.cell i (by rw [ll]; omega)
      have f0 := hk.free i
      have hs := hk.set i 165
      have fin : Hid ((xs ++ (List.replicate j 165 ++ List.replicate (9 - j) 0)).set i 165 = xs ++ (List.replicate (j + 1) 165 ++ List.replicate (9 - (j + 1)) 0)) := Lib.hid (by
        rw [List.set_append_right _ _ (by rw [← HN.out]; omega), ← HN.out, List.set_append_right _ _ (by rw [List.length_replicate]; omega), List.length_replicate, show i - n - j = 0 by omega,
          show 9 - j = (9 - (j + 1)) + 1 by omega, List.replicate_succ (n := 9 - (j + 1)), List.set_cons_zero, List.replicate_succ' (n := j), List.append_assoc]
        rfl)
      rw [fin.out] at hs
      have hb' := hb.setCell (p := ⟨G, i, none⟩) hge (.int .u8 165)
      have hin : (i : Int) < (n : Int) + 9 := by omega
      have hin2 : i < n + 9 := by omega
      have hd1 : decide ((i : Int) < (n : Int) + 9) = true := decide_eq_true hin
      clear hk hb ll hi
      go_wp2_with fail
      go_roundw
      case rel => exact ⟨j + 1, by omega, by have := HI.out; go_num, hs, hb'⟩
      case measure => have := HI.out; simp [intOf]; omega
    · obtain rfl : j = 9 := by omega
      have hkf : Blk wr G .u8 5 (xs ++ m9) := by simpa [m9] using hk
      have hin : ¬ (i : Int) < (n : Int) + 9 := by omega
      have hin2 : ¬ i < n + 9 := by omega
      have hd1 : decide ((i : Int) < (n : Int) + 9) = false := decide_eq_false hin
      have hcut := fun W => cut_h0 (P := Tryd.prog) W 29 5 Tryd.underlying29 size8 (some ⟨G, 0, none⟩) (n + 9) (n + 9) n (by omega)
      clear hk hi
      go_wp2_with fail
      go_ret
      exact ⟨G, by rw [← HN.out]; first | done | rfl, hge, hkf, hb⟩

set_option maxHeartbeats 4000000 in
set_option maxRecDepth 20000 in
theorem spared_c (g : Nat) (a : Option Addr) (cap' : Nat) (xs : List Int) (w : World) (hk : Blk w g .u8 5 (xs ++ m9)) (hx : Sl .u8 w a cap' xs) (ux : U8 xs) (hl : xs.length ≤ 140737488350000) :
    Calls Tryd.prog 26 #[.slice (some ⟨g, 0, none⟩) xs.length (xs.length + 9), .slice a xs.length cap'] w (TellPost true w) := by
  have cm := same4_c _ _ _ _ _ _ w (blk_sl hk hl) hx ux ux
  rw [show decide (xs = xs) = true from decide_eq_true rfl] at cm
  have cells : ∀ j, j < 9 → w.cell? ⟨g, xs.length + j, none⟩ = some (.int .u8 165) := fun j hj => by
    rw [hk.cell (xs.length + j) (by rw [List.length_append, m9_len]; omega), nth_append_right]
    unfold m9
    rw [nth_replicate _ _ _ hj]
  have hcut := fun W => cut_h0 (P := Tryd.prog) W 29 5 Tryd.underlying29 size8 (some ⟨g, 0, none⟩) xs.length (xs.length + 9) (xs.length + 9) (by omega)
  obtain ⟨n, hn⟩ : ∃ n, n = xs.length := ⟨_, rfl⟩
  rw [← hn] at cm hl hcut ⊢
  have e9 : ((n + 9 : Nat) : Int) = (n : Int) + 9 := by omega
  rw [e9] at hcut
  have CELLS := Lib.hid cells
  have HN := Lib.hid hn
  clear cells hn e9
  go_enter Tryd.func26, Tryd.ntmps26
  go_wp2_with fail
  go_loopw [6] (fun t wr => ∃ j : Nat, j ≤ 9 ∧ t = .int .i64 ((n + j : Nat) : Int) ∧ wr = w) (fun t _ => n + 9 - (intOf t).toNat)
  case atStart => exact ⟨0, by omega, by rw [Nat.add_zero], rfl⟩
  case round =>
    obtain ⟨j, hj, rfl, hww⟩ := hrel
    subst hww
    obtain ⟨i, hi⟩ : ∃ i, i = n + j := ⟨_, rfl⟩
    rw [← hi]
    have HI := Lib.hid hi
    by_cases hlt : j < 9
    · have c0 := CELLS.out j hlt
      rw [← HN.out, ← hi] at c0
      have hin : (i : Int) < (n : Int) + 9 := by omega
      have hin2 : i < n + 9 := by omega
      have hd1 : decide ((i : Int) < (n : Int) + 9) = true := decide_eq_true hin
      clear hi cm hcut
      go_wp2_with fail
      go_roundw
      case rel => exact ⟨j + 1, by omega, by have := HI.out; go_num, by trivial⟩
      case measure => have := HI.out; simp [intOf]; omega
    · obtain rfl : j = 9 := by omega
      have hin : ¬ (i : Int) < (n : Int) + 9 := by omega
      have hin2 : ¬ i < n + 9 := by omega
      have hd1 : decide ((i : Int) < (n : Int) + 9) = false := decide_eq_false hin
      clear hi
      go_wp2_with fail
      refine cm.mono ?_; rintro e w1 ⟨rfl, hb⟩
      go_wp2_with fail
      go_ret
      exact ⟨rfl, hb⟩

set_option maxHeartbeats 4000000 in
set_option maxRecDepth 20000 in
theorem whole4_c (A : Option Addr) (cap : Nat) (ps : List Part) (w : World) (hr : Rows_ w A ps) (hn : ps.length ≤ 1048576) (hl : (flat ps).length ≤ 1048576) :
    Calls Tryd.prog 33 #[.slice A ps.length cap] w (BytesPost (flat ps) w) := by
  obtain ⟨n, hN⟩ : ∃ n, n = ps.length := ⟨_, rfl⟩
  rw [← hN] at hn ⊢
  have HN := Lib.hid hN
  clear hN
  go_enter Tryd.func33, Tryd.ntmps33
  go_wp2_with fail
  go_loopw [3, 4] (fun v t wr => ∃ i : Nat, i ≤ n ∧ t = .int .i64 (i : Int) ∧ New w.heap.size .u8 5 wr v (flat (ps.take i)) ∧ Below w.heap.size w wr) (fun _ t _ => n - (intOf t).toNat)
  case atStart => exact ⟨0, by omega, rfl, .nil _ _ _ _, .refl _ _⟩
  case round =>
    obtain ⟨i, hi, rfl, hv, hb⟩ := hrel
    have hbs := hb.size
    by_cases hlt : i < n
    · have hip : i < ps.length := by rw [← HN.out]; exact hlt
      have hr1 := hr.below hb
      obtain ⟨b, off, eaa, hc⟩ := hr1.at_ (by omega)
      subst eaa
      have ck := hc i hip
      have sp := hr1.sl _ (List.getElem_mem hip)
      have hfl := Lib.hid (flat_take_succ ps i hip)
      have hle := flat_len_le ps (i + 1)
      rw [hfl.out, List.length_append] at hle
      obtain ⟨p, hp⟩ : ∃ p, p = ps[i] := ⟨_, rfl⟩
      rw [← hp] at ck sp hfl hle
      rw [Part.val] at ck
      obtain ⟨l, hl1⟩ : ∃ l, l = flat (ps.take i) := ⟨_, rfl⟩
      rw [← hl1] at hv hle hfl
      have hd1 : decide ((i : Int) < (n : Int)) = true := decide_eq_true (by omega)
      have hin : (i : Int) < (n : Int) := by omega
      clear hc hip hp hl1 hr1
      go_wp2_with (at_builtin; refine wpList_append_new _ rfl _ _ 29 rfl w.heap.size 5 .u8 1 Tryd.underlying29 info8s _ _ rfl hv _ _ _ p.xs rfl rfl sp.cells (by omega) (by omega) hbs ?_)
      intro v' w' hv' hg' _
      have hlt1 := fun g hg => (hv.lt g hg).1
      have hb' : Below w.heap.size w w' := hb.grown hg' hbs hlt1
      rw [← hfl.out] at hv'
      clear hv hg' hb
      go_wp2_with fail
      go_roundw
      case rel => exact ⟨i + 1, by omega, by go_num, hv', hb'⟩
      case measure => simp [intOf]; omega
    · obtain rfl : n = i := by omega
      have hd1 : decide ((n : Int) < (n : Int)) = false := by simp
      rw [List.take_of_length_le (by rw [← HN.out]; exact Nat.le_refl _)] at hv
      go_wp2_with fail
      go_ret
      exact ⟨_, rfl, hv, hb⟩

def RoomsPost (ps : List Part) (w : World) (e : Ending) (w' : World) : Prop := ∃ v G, e = .returned v ∧ Rooms w.heap.size 5 29 w' v ps.length G (px ps) ∧ Below w.heap.size w w'
set_option maxHeartbeats 4000000 in
set_option maxRecDepth 20000 in
theorem rooms_c (A : Option Addr) (cap : Nat) (ps : List Part) (w : World) (hr : Rows_ w A ps) (hn : ps.length ≤ 1048576) (hl : (flat ps).length ≤ 1048576) :
    Calls Tryd.prog 31 #[.slice A ps.length cap] w (RoomsPost ps w) := by
  obtain ⟨n, hN⟩ : ∃ n, n = ps.length := ⟨_, rfl⟩
  rw [← hN] at hn ⊢
  have HN := Lib.hid hN
  clear hN
  go_enter Tryd.func31, Tryd.ntmps31
  go_wp2_with fail
  go_loopw [3, 4] (fun v t wr => ∃ (i : Nat) (G : Nat → Nat), i ≤ n ∧ t = .int .i64 (i : Int) ∧ Rooms w.heap.size 5 29 wr v i G (px ps) ∧ Below w.heap.size w wr) (fun _ t _ => n - (intOf t).toNat)
  case atStart => exact ⟨0, fun _ => 0, by omega, rfl, ⟨.nil _ _ _, fun j hj => by omega, fun j hj => by omega, fun i j hi => by omega, fun j hj => by omega⟩, .refl _ _⟩
  case round =>
    obtain ⟨i, G, hi, rfl, hv, hb⟩ := hrel
    have hbs := hb.size
    by_cases hlt : i < n
    · have hip : i < ps.length := by rw [← HN.out]; exact hlt
      have hr1 := hr.below hb
      obtain ⟨b, off, eaa, hc⟩ := hr1.at_ (by omega)
      subst eaa
      have ck := hc i hip
      have sp := hr1.sl _ (List.getElem_mem hip)
      have hle := px_le_flat ps i hip
      have hpx := Lib.hid (px_lt ps i hip)
      rw [hpx.out] at hle
      obtain ⟨p, hp⟩ : ∃ p, p = ps[i] := ⟨_, rfl⟩
      rw [← hp] at ck sp hle hpx
      rw [Part.val] at ck
      have hd1 : decide ((i : Int) < (n : Int)) = true := decide_eq_true (by omega)
      have hin : (i : Int) < (n : Int) := by omega
      obtain ⟨aV, cV, rfl⟩ := hv.row.sl
      obtain ⟨nv, hnv⟩ : ∃ m, m = ((List.range i).map (roomVal G (px ps))).length := ⟨_, rfl⟩
      rw [← hnv] at hv ⊢
      have HNV : Hid (nv = i) := Lib.hid (by rw [hnv]; simp)
      have HNV2 := Lib.hid hnv
      have nvb : nv ≤ 1048576 := by rw [HNV.out]; omega
      clear hc hip hp hr1 hnv
      go_wp2_with fail
      refine (roomy_c p.a p.cap p.xs _ sp (by omega)).mono ?_; rintro e w1 ⟨g, rfl, hg, hk, hb1⟩
      have hv1 := hv.keep hb1
      have hB1 := hb.trans (hb1.mono hbs)
      have hbs1 := hB1.size
      have hgl := hk.lt
      have glt : ∀ j, j < i → G j < wr.heap.size := fun j hj => (hv.blk j hj).lt
      have olt : ∀ x, (Value.slice aV nv cV).ownBlock = some x → x < wr.heap.size := fun x hx => (hv.row.lt x hx).2
      clear hv hb hb1
      go_wp2_with (at_builtin; refine wpList_append_newV _ rfl _ _ 28 rfl w.heap.size 29 24 Tryd.underlying28 infoS4 _ ((List.range i).map (roomVal G (px ps))) rfl (hv1.row.alloc _) _ 1 (.slice (some ⟨g, 0, none⟩) p.xs.length (p.xs.length + 9)) ⟨_, _, _, rfl⟩ rfl (cell_new1 _ _ _ _) (by rw [← HNV2.out]; omega) (by rw [← HNV2.out]; omega) (by simp; omega) ?_)
      intro v' w' hv' hg' hown
      have hPlt := fun x hx => (hv1.row.lt x hx).1
      have hb' : Below w.heap.size w w' := (hB1.alloc hbs1 _).grown hg' (by simp; omega) hPlt
      have big : Rooms w.heap.size 5 29 w' v' (i + 1) (fun j => if j = i then g else G j) (px ps) := by
        have ev : (List.range i).map (roomVal G (px ps)) ++ [.slice (some ⟨g, 0, none⟩) p.xs.length (p.xs.length + 9)] = (List.range (i + 1)).map (roomVal (fun j => if j = i then g else G j) (px ps)) := by
          rw [List.range_succ, List.map_append]
          congr 1
          · apply List.map_congr_left
            intro j hj
            have hji : j ≠ i := by have := List.mem_range.1 hj; omega
            simp [roomVal, hji]
          · simp [roomVal, hpx.out]
        have al := fun x => hv1.own x
        refine ⟨by rw [← ev]; exact hv', fun j hj => ?_, fun j hj => ?_, fun a b ha hb2 he => ?_, fun j hj he => ?_⟩
        · by_cases e : j = i
          · subst e
            simp only [if_true]
            rw [hpx.out]
            refine (hk.alloc _).grown hg' (fun e => ?_)
            have := olt g e.symm
            omega
          · simp only [e, if_false]
            exact ((hv1.blk j (by omega)).alloc _).grown hg' (fun e2 => hv1.own j (by omega) e2.symm)
        · by_cases e : j = i
          · simp only [e, if_true]; omega
          · simp only [e, if_false]; exact hv1.far j (by omega)
        · by_cases ea : a = i
          · by_cases eb : b = i
            · omega
            · simp only [ea, eb, if_true, if_false] at he
              have := glt b (by omega)
              omega
          · by_cases eb : b = i
            · simp only [ea, eb, if_true, if_false] at he
              have := glt a (by omega)
              omega
            · simp only [ea, eb, if_false] at he
              exact hv1.inj a b (by omega) (by omega) he
        · have gj : (if j = i then g else G j) < w1.heap.size := by
            by_cases e : j = i
            · simp only [e, if_true]; exact hgl
            · simp only [e, if_false]
              exact (hv1.blk j (by omega)).lt
          rcases hown with e | ⟨x, e, hx⟩
          · rw [e] at he
            by_cases e2 : j = i
            · simp only [e2, if_true] at he
              have := olt _ he
              omega
            · simp only [e2, if_false] at he
              exact hv1.own j (by omega) he
          · rw [e] at he
            cases he
            omega
      clear hv1 hv' hg' hown hPlt glt olt hB1
      go_wp2_with fail
      go_roundw
      case rel => exact ⟨i + 1, _, by omega, by go_num, big, hb'⟩
      case measure => simp [intOf]; omega
    · obtain rfl : n = i := by omega
      have hd1 : decide ((n : Int) < (n : Int)) = false := by simp
      go_wp2_with fail
      go_ret
      exact ⟨_, G, rfl, by rw [← HN.out]; exact hv, hb⟩
end Go.Proofs.YtiiedgbdooamaaaDoor
