/- signetlaw5: marked, whole, turned, copied, by their contracts. (Printed by gen_marked.py.) -/
import Derived.Test.YtiiedgbdooamaaaDoorRefS
import Derived.Test.YtiiedgbdooamaaaDoorOpen
set_option linter.unusedVariables false
set_option linter.unusedSimpArgs false
namespace Go.Sg
open Go.RowKit
/-- The marks behind a copy. -/
def marks (n : Nat) : List Int := (List.range n).map fun i => ((7 + i) % 256 : Nat)
theorem marks_len (n : Nat) : (marks n).length = n := by simp [marks]
theorem marks_next (n : Nat) : marks (n + 1) = marks n ++ [(((7 + n) % 256 : Nat) : Int)] := by simp [marks, List.range_succ]
theorem nth_marks (n i : Nat) (h : i < n) : nth (marks n) i = (((7 + i) % 256 : Nat) : Int) := by simp [nth, marks, h]
theorem marks_u8 (n : Nat) : U8 (marks n) := .of_mem (by omega) (by
  intro x hx
  simp only [marks, List.mem_map, List.mem_range] at hx
  obtain ⟨i, _, rfl⟩ := hx
  omega)
theorem Pre.window {w : World} {g : Nat} {k : IntKind} {E : TypeId} {cap : Nat} {xs ys : List Int} (h : Pre w g k E cap (xs ++ ys)) : Sl k w (some ⟨g, 0, none⟩) cap xs := by
  have := (h.take xs.length).sl
  rwa [List.take_left] at this
end Go.Sg
namespace Go.Proofs.YtiiedgbdooamaaaDoor
open Go.RowKit Go.Sg

/-- A row of the call's own, at its block. -/
def RowPost (xs : List Int) (w : World) (e : Ending) (w' : World) : Prop := ∃ g cap, e = .returned (.slice (some ⟨g, 0, none⟩) xs.length cap) ∧ w.heap.size ≤ g ∧ Pre w' g .u8 5 cap xs ∧ Below w.heap.size w w'

set_option maxHeartbeats 4000000 in
set_option maxRecDepth 20000 in
theorem marked_c (a : Option Addr) (cap : Nat) (xs : List Int) (w : World) (hx : Sl .u8 w a cap xs) (hl : xs.length ≤ 140737488350000) :
    Calls Tryd.prog 39 #[.slice a xs.length cap] w (RowPost (xs ++ marks 200) w) := by
  have mx := Nat.le_trans hx.le hx.max
  go_enter Tryd.func39, Tryd.ntmps39
  have nA0 : New w.heap.size .u8 5 w (.slice none 0 0) (xs.take 0) := .nil _ _ _ _
  go_wp2_with fail
  go_loopw [3, 4] (fun v t wr => ∃ i : Nat, i ≤ xs.length ∧ t = .int .i64 (i : Int) ∧ New w.heap.size .u8 5 wr v (xs.take i) ∧ Below w.heap.size w wr)
    (fun _ t _ => xs.length - (intOf t).toNat)
  case atStart => exact ⟨0, by omega, rfl, nA0, .refl _ _⟩
  case round =>
    clear nA0
    obtain ⟨i, hi, rfl, hv, hb⟩ := hrel
    have hbs := hb.size
    obtain ⟨l, hl1⟩ : ∃ l, l = xs.take i := ⟨_, rfl⟩
    rw [← hl1] at hv
    have HL : Hid (l.length ≤ xs.length) := Lib.hid (by rw [hl1]; simp; omega)
    have HL1 := Lib.hid hl1
    clear hl1
    by_cases hlt : i < xs.length
    · have fin : Hid (l ++ [nth xs i] = xs.take (i + 1)) := Lib.hid (by rw [HL1.out]; exact (take_succ_nth _ _ hlt).symm)
      have hlp := hlt
      obtain ⟨b, off, eaa, hc⟩ := (hx.below hb).cells (by omega)
      subst eaa
      have c0 := hc i hlp
      clear hc hlp
      have hd1 : decide ((i : Int) < (xs.length : Int)) = true := decide_eq_true (by omega)
      go_wp2_with (at_builtin; refine wpList_append_new _ rfl _ _ 29 rfl w.heap.size 5 .u8 1 Tryd.underlying29 info8s _ _ rfl (hv.alloc _) _ _ 1 [nth xs i] rfl rfl (cells_one _ _ _ _ _ rfl) (by have := HL.out; simp; omega) (by have := HL.out; simp; omega) (by simp; omega) ?_)
      intro v' w' hv' hg' _
      have hlt1 := fun g hg => (hv.lt g hg).1
      have hb' : Below w.heap.size w w' := (hb.alloc hbs _).grown hg' (by simp; omega) hlt1
      rw [fin.out] at hv'
      clear hv hg' hb
      go_wp2_with fail
      go_roundw
      case rel => exact ⟨i + 1, by omega, by go_num, hv', hb'⟩
      case measure => simp [intOf]; omega
    · obtain rfl : xs.length = i := by omega
      have hd1 : decide ((xs.length : Int) < (xs.length : Int)) = false := by simp
      have nB0 : New w.heap.size .u8 5 wr u3 (xs ++ marks 0) := by
        have := HL1.out
        rw [List.take_length] at this
        rw [this] at hv
        simpa [marks] using hv
      clear HL HL1 hv l hd1 hbs hlt hi
      go_wp2_with fail
      go_loopw [3, 5] (fun v t wr => ∃ i : Nat, i ≤ 200 ∧ t = .int .i64 (i : Int) ∧ New w.heap.size .u8 5 wr v (xs ++ marks i) ∧ Below w.heap.size w wr)
        (fun _ t _ => 200 - (intOf t).toNat)
      case atStart => exact ⟨0, by omega, rfl, nB0, hb⟩
      case round =>
        clear nB0 hb
        obtain ⟨i, hi, rfl, hv, hb⟩ := hrel
        have hbs := hb.size
        obtain ⟨l, hl1⟩ : ∃ l, l = xs ++ marks i := ⟨_, rfl⟩
        rw [← hl1] at hv
        have HL : Hid (l.length = xs.length + i) := Lib.hid (by rw [hl1, List.length_append, marks_len])
        by_cases hlt : i < 200
        · have fin : Hid (l ++ [(((7 + i) % 256 : Nat) : Int)] = xs ++ marks (i + 1)) := Lib.hid (by rw [hl1, marks_next, List.append_assoc])
          obtain ⟨y, hy⟩ : ∃ y : Nat, y = (7 + i) % 256 := ⟨_, rfl⟩
          rw [← hy] at fin
          have hyw : IntKind.u8.wrap (7 + (i : Int)) = (y : Int) := by rw [IntKind.wrap_u8', hy]; omega
          have hym : (7 + (i : Int)) % 256 = (y : Int) := by rw [hy]; omega
          have hd1 : decide ((i : Int) < 200) = true := decide_eq_true (by omega)
          clear hl1 hy
          go_wp2_with (at_builtin; refine wpList_append_new _ rfl _ _ 29 rfl w.heap.size 5 .u8 1 Tryd.underlying29 info8s _ _ rfl (hv.alloc _) _ _ 1 [(y : Int)] rfl rfl (cells_one _ _ _ _ _ rfl) (by have := HL.out; simp; omega) (by have := HL.out; simp; omega) (by simp; omega) ?_)
          intro v' w' hv' hg' _
          have hlt1 := fun g hg => (hv.lt g hg).1
          have hb' : Below w.heap.size w w' := (hb.alloc hbs _).grown hg' (by simp; omega) hlt1
          rw [fin.out] at hv'
          clear hv hg' hb hyw hym
          go_wp2_with fail
          go_roundw
          case rel => exact ⟨i + 1, by omega, by go_num, hv', hb'⟩
          case measure => simp [intOf]; omega
        · obtain rfl : i = 200 := by omega
          rw [show ((200 : Nat) : Int) = 200 from rfl]
          rw [hl1] at hv
          obtain ⟨g, cp, rfl, hg, hp⟩ := hv.pre (by rw [List.length_append, marks_len]; omega)
          obtain ⟨q, hq⟩ : ∃ q, q = (xs ++ marks 200).length := ⟨_, rfl⟩
          have HQ := Lib.hid hq
          rw [← hq]
          clear hl1 hv hq HL
          go_wp2_with fail
          go_ret
          exact ⟨g, cp, by rw [← HQ.out]; first | done | rfl, hg, hp, hb⟩

set_option maxHeartbeats 4000000 in
set_option maxRecDepth 20000 in
theorem whole_c (g : Nat) (a : Option Addr) (cap cap' : Nat) (xs : List Int) (w : World) (hk : Pre w g .u8 5 cap (xs ++ marks 200)) (hx : Sl .u8 w a cap' xs) (ux : U8 xs) (hl : xs.length ≤ 140737488350000) :
    Calls Tryd.prog 43 #[.slice (some ⟨g, 0, none⟩) (xs ++ marks 200).length cap, .slice a xs.length cap'] w (TellPost true w) := by
  have lq : (xs ++ marks 200).length = xs.length + 200 := by rw [List.length_append, marks_len]
  rw [lq]
  have hle := hk.le
  rw [lq] at hle
  have hmx := hk.max
  have hsl := hk.window
  have cells : ∀ i, i < 200 → w.cell? ⟨g, xs.length + i, none⟩ = some (.int .u8 (((7 + i) % 256 : Nat) : Int)) := fun i hi => by
    rw [hk.cell (xs.length + i) (by rw [lq]; omega), nth_append_right, nth_marks _ _ hi]
  have CELLS := Lib.hid cells
  have hcut := fun W => cut_h0 (P := Tryd.prog) W 29 5 Tryd.underlying29 size8 (some ⟨g, 0, none⟩) (xs.length + 200) cap xs.length (by omega)
  have cm := same5_c _ _ _ _ _ _ w hsl hx ux ux
  rw [show decide (xs = xs) = true from decide_eq_true rfl] at cm
  obtain ⟨n, hn⟩ : ∃ n, n = xs.length := ⟨_, rfl⟩
  rw [← hn] at hcut cm hle hl ⊢
  have HN := Lib.hid hn
  clear cells lq hn hk hsl
  go_enter Tryd.func43, Tryd.ntmps43
  go_wp2_with fail
  go_loopw [5] (fun t wr => ∃ i : Nat, i ≤ 200 ∧ t = .int .i64 (i : Int) ∧ wr = w) (fun t _ => 200 - (intOf t).toNat)
  case atStart => exact ⟨0, by omega, rfl, rfl⟩
  case round =>
    obtain ⟨i, hi, rfl, hww⟩ := hrel
    subst hww
    by_cases hlt : i < 200
    · have c0 := CELLS.out i hlt
      rw [← HN.out] at c0
      obtain ⟨y, hy⟩ : ∃ y : Nat, y = (7 + i) % 256 := ⟨_, rfl⟩
      rw [← hy] at c0
      have hyw : IntKind.u8.wrap (7 + (i : Int)) = (y : Int) := by rw [IntKind.wrap_u8', hy]; omega
      have hym : (7 + (i : Int)) % 256 = (y : Int) := by rw [hy]; omega
      have hne : ((y : Int) != (y : Int)) = false := by simp
      have hd1 : decide ((i : Int) < 200) = true := decide_eq_true (by omega)
      obtain ⟨ni, hni⟩ : ∃ x, x = n + i := ⟨_, rfl⟩
      have e1 : (n : Int) + (i : Int) = (ni : Int) := by omega
      have l1 : ni < n + 200 := by omega
      rw [← hni] at c0
      clear hy hni cm hcut
      go_wp2_with fail
      go_roundw
      case rel => exact ⟨i + 1, by omega, by go_num, by trivial⟩
      case measure => simp [intOf]; omega
    · obtain rfl : i = 200 := by omega
      rw [show ((200 : Nat) : Int) = 200 from rfl]
      go_wp2_with fail
      refine cm.mono ?_; rintro e w1 ⟨rfl, hb⟩
      go_wp2_with fail
      go_ret
      exact ⟨rfl, hb⟩

set_option maxHeartbeats 4000000 in
set_option maxRecDepth 20000 in
/-- signetlaw5.turned: other bytes, as many; what lies behind them stays. -/
theorem turned_c (g cap : Nat) (xs ys : List Int) (w : World) (hk : Pre w g .u8 5 cap (xs ++ ys)) (ux : U8 xs) (hl : xs.length ≤ 140737488350000) :
    Calls Tryd.prog 44 #[.slice (some ⟨g, 0, none⟩) xs.length cap] w fun e w' => ∃ zs, e = .returned (.tuple #[]) ∧ zs.length = xs.length ∧ U8 zs ∧ Pre w' g .u8 5 cap (zs ++ ys) ∧ w.grownBy w' (some g) := by
  have hmx := hk.max
  obtain ⟨n, hn⟩ : ∃ n, n = xs.length := ⟨_, rfl⟩
  rw [← hn] at hl ⊢
  have HN := Lib.hid hn
  have hn0 : xs.length = n := hn.symm
  have step : ∀ (wr : World) (zs : List Int) (p : Nat) (y : Int), zs.length = n → p < n → U8 zs → (0 ≤ y ∧ y ≤ 255) → Pre wr g .u8 5 cap (zs ++ ys) → w.grownBy wr (some g) →
      (zs.set p y).length = n ∧ U8 (zs.set p y) ∧ Pre (wr.setCell ⟨g, p, none⟩ (.int .u8 y)) g .u8 5 cap (zs.set p y ++ ys) ∧ w.grownBy (wr.setCell ⟨g, p, none⟩ (.int .u8 y)) (some g) := by
    intro wr zs p y hzl hp hu hy hpre hgr
    refine ⟨by rw [List.length_set, hzl], InR.set hu p hy.1 hy.2, ?_, only_setCell hgr (.inl rfl) _⟩
    have := hpre.set p y
    rwa [List.set_append_left _ _ (by omega)] at this
  have STEP := Lib.hid step
  clear step hn
  go_enter Tryd.func44, Tryd.ntmps44
  go_wp2_with fail
  go_loopw [2] (fun t wr => ∃ (i : Nat) (zs : List Int), i ≤ n / 2 ∧ t = .int .i64 (i : Int) ∧ zs.length = n ∧ U8 zs ∧ Pre wr g .u8 5 cap (zs ++ ys) ∧ w.grownBy wr (some g)) (fun t _ => n / 2 - (intOf t).toNat)
  case atStart => exact ⟨0, xs, by omega, rfl, hn0, ux, hk, rfl, rfl, rfl, Nat.le_refl _, fun _ _ _ => rfl⟩
  case round =>
    clear hk hn0
    obtain ⟨i, zs, hi, rfl, hzl, hu, hp, hg⟩ := hrel
    have HZL := Lib.hid hzl
    clear hzl
    have LZ : Hid ((zs ++ ys).length = n + ys.length) := Lib.hid (by rw [List.length_append, HZL.out])
    by_cases hlt : i < n / 2
    · obtain ⟨q, hq⟩ : ∃ q, n = q + 1 + i := ⟨n - 1 - i, by omega⟩
      have c0 := hp.cell i (by rw [LZ.out]; omega)
      have c1 := hp.cell q (by rw [LZ.out]; omega)
      rw [nth_append_left _ _ _ (by rw [HZL.out]; omega)] at c0 c1
      have f0 := hp.free i
      have f1 := hp.free q
      have u0 := hu i
      have u1 := hu q
      have hd1 : decide ((i : Int) < (n : Int) / 2) = true := decide_eq_true (by omega)
      have e1 : (n : Int) - 1 - (i : Int) = (q : Int) := by omega
      have hin : i < n := by omega
      have hqn : q < n := by omega
      have hin' : (i : Int) < (n : Int) := by omega
      have hqn' : (q : Int) < (n : Int) := by omega
      have e2 : (n : Int) - 1 - (i : Int) = (q : Int) := e1
      obtain ⟨s1, s2, s3, s4⟩ := STEP.out wr zs i (nth zs q) HZL.out hin hu u1 hp hg
      have cq : (wr.setCell ⟨g, i, none⟩ (.int .u8 (nth zs q))).frozen? ⟨g, q, none⟩ = false := s3.free q
      have cq2 := s3.cell q (by rw [List.length_append, s1]; omega)
      obtain ⟨t1, t2, t3, t4⟩ := STEP.out _ _ q (nth zs i) s1 hqn s2 u0 s3 s4
      obtain ⟨x, hx⟩ : ∃ x, x = nth zs i := ⟨_, rfl⟩
      obtain ⟨y, hy⟩ : ∃ y, y = nth zs q := ⟨_, rfl⟩
      rw [← hx] at c0 u0 t1 t2 t3 t4
      rw [← hy] at c1 u1 s3 s4 cq cq2 t1 t2 t3 t4
      have HT1 := Lib.hid t1
      clear hp hg s1 s2 s3 s4 t1 hx hy hq
      go_wp2_with fail
      go_roundw
      case rel => exact ⟨i + 1, _, by omega, by go_num, HT1.out, t2, t3, t4⟩
      case measure => simp [intOf]; omega
    · have hd1 : decide ((i : Int) < (n : Int) / 2) = false := decide_eq_false (by omega)
      have z0 : zs.length = n := HZL.out
      go_wp2_with fail
      go_loopw [4] (fun t wr => ∃ (i : Nat) (zs : List Int), i ≤ n ∧ t = .int .i64 (i : Int) ∧ zs.length = n ∧ U8 zs ∧ Pre wr g .u8 5 cap (zs ++ ys) ∧ w.grownBy wr (some g)) (fun t _ => n - (intOf t).toNat)
      case atStart => exact ⟨0, zs, by omega, rfl, z0, hu, hp, hg⟩
      case round =>
        clear z0 hu hp hg LZ HZL hd1 hlt hi
        obtain ⟨j, zs, hj, rfl, hzl, hu, hp, hg⟩ := hrel
        have HZL := Lib.hid hzl
        clear hzl
        have LZ : Hid ((zs ++ ys).length = n + ys.length) := Lib.hid (by rw [List.length_append, HZL.out])
        by_cases hlt : j < n
        · have c0 := hp.cell j (by rw [LZ.out]; omega)
          rw [nth_append_left _ _ _ (by rw [HZL.out]; omega)] at c0
          have f0 := hp.free j
          have hin' : (j : Int) < (n : Int) := by omega
          obtain ⟨y, hy⟩ : ∃ y, y = IntKind.u8.wrap ((j : Int) + 1) := ⟨_, rfl⟩
          have hyw : IntKind.u8.wrap ((j : Int) + 1) = y := hy.symm
          have hym : ((j : Int) + 1) % 256 = y := by rw [hy, IntKind.wrap_u8']
          obtain ⟨x, hx⟩ : ∃ x, x = nth zs j := ⟨_, rfl⟩
          rw [← hx] at c0
          have hxo : bits .xor .u8 x y = bx x y := rfl
          obtain ⟨s1, s2, s3, s4⟩ := STEP.out wr zs j (bx x y) HZL.out hlt hu (bx_rng _ _) hp hg
          have HS1 := Lib.hid s1
          clear hp hg hx hy s1
          go_wp2_with fail
          go_roundw
          case rel => exact ⟨j + 1, _, by omega, by go_num, HS1.out, s2, s3, s4⟩
          case measure => simp [intOf]; omega
        · obtain rfl : n = j := by omega
          have hd1 : decide ((n : Int) < (n : Int)) = false := by simp
          go_wp2_with fail
          go_end0
          exact ⟨zs, rfl, HZL.out, hu, hp, hg⟩

set_option maxHeartbeats 4000000 in
set_option maxRecDepth 20000 in
theorem copied5_c (a : Option Addr) (cap : Nat) (xs : List Int) (w : World) (hx : Sl .u8 w a cap xs) (hl : xs.length ≤ 140737488350000) :
    Calls Tryd.prog 45 #[.slice a xs.length cap] w (BytesPost xs w) := by
  have mx := Nat.le_trans hx.le hx.max
  go_enter Tryd.func45, Tryd.ntmps45
  have nA0 : New w.heap.size .u8 5 w (.slice none 0 0) (xs.take 0) := .nil _ _ _ _
  go_wp2_with fail
  go_loopw [3, 4] (fun v t wr => ∃ i : Nat, i ≤ xs.length ∧ t = .int .i64 (i : Int) ∧ New w.heap.size .u8 5 wr v (xs.take i) ∧ Below w.heap.size w wr)
    (fun _ t _ => xs.length - (intOf t).toNat)
  case atStart => exact ⟨0, by omega, rfl, nA0, .refl _ _⟩
  case round =>
    clear nA0
    obtain ⟨i, hi, rfl, hv, hb⟩ := hrel
    have hbs := hb.size
    obtain ⟨l, hl1⟩ : ∃ l, l = xs.take i := ⟨_, rfl⟩
    rw [← hl1] at hv
    have HL : Hid (l.length ≤ xs.length) := Lib.hid (by rw [hl1]; simp; omega)
    have HL1 := Lib.hid hl1
    clear hl1
    by_cases hlt : i < xs.length
    · have fin : Hid (l ++ [nth xs i] = xs.take (i + 1)) := Lib.hid (by rw [HL1.out]; exact (take_succ_nth _ _ hlt).symm)
      have hlp := hlt
      obtain ⟨b, off, eaa, hc⟩ := (hx.below hb).cells (by omega)
      subst eaa
      have c0 := hc i hlp
      clear hc hlp
      have hd1 : decide ((i : Int) < (xs.length : Int)) = true := decide_eq_true (by omega)
      go_wp2_with (at_builtin; refine wpList_append_new _ rfl _ _ 29 rfl w.heap.size 5 .u8 1 Tryd.underlying29 info8s _ _ rfl (hv.alloc _) _ _ 1 [nth xs i] rfl rfl (cells_one _ _ _ _ _ rfl) (by have := HL.out; simp; omega) (by have := HL.out; simp; omega) (by simp; omega) ?_)
      intro v' w' hv' hg' _
      have hlt1 := fun g hg => (hv.lt g hg).1
      have hb' : Below w.heap.size w w' := (hb.alloc hbs _).grown hg' (by simp; omega) hlt1
      rw [fin.out] at hv'
      clear hv hg' hb
      go_wp2_with fail
      go_roundw
      case rel => exact ⟨i + 1, by omega, by go_num, hv', hb'⟩
      case measure => simp [intOf]; omega
    · obtain rfl : xs.length = i := by omega
      have hd1 : decide ((xs.length : Int) < (xs.length : Int)) = false := by simp
      have e0 := HL1.out
      rw [List.take_length] at e0
      rw [e0] at hv
      clear HL HL1 e0
      go_wp2_with fail
      go_ret
      exact ⟨_, rfl, hv, hb⟩
end Go.Proofs.YtiiedgbdooamaaaDoor
