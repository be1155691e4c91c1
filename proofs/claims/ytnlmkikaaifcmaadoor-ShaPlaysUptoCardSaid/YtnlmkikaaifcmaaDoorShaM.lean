/- What a State has taken in: plain lists. -/
import Derived.Test.YtnlmkikaaifcmaaDoorShaT
set_option linter.unusedVariables false
set_option linter.unusedSimpArgs false
namespace Go.Sg

theorem word32_congr {a b : List Int} {p q : Nat} (h : ∀ i, i < 4 → nth a (p + i) = nth b (q + i)) : word32 a p = word32 b q := by
  have h0 := h 0 (by omega)
  have h1 := h 1 (by omega)
  have h2 := h 2 (by omega)
  have h3 := h 3 (by omega)
  rw [Nat.add_zero, Nat.add_zero] at h0
  rw [word32, word32, h0, h1, h2, h3]
theorem part64_congr {a b : List Int} {p q : Nat} (n : Nat) (h : ∀ i, i < n → nth a (p + i) = nth b (q + i)) : part64 a p n = part64 b q n := by
  induction n with
  | zero => rfl
  | succ n ih => rw [part64, part64, ih fun i hi => h i (by omega), h n (by omega)]
theorem words32_congr {a b : List Int} {p q : Nat} (h : ∀ i, i < 64 → nth a (p + i) = nth b (q + i)) : words32 a p 16 = words32 b q 16 := by
  unfold words32
  apply List.map_congr_left
  intro i hi
  rw [List.mem_range] at hi
  exact word32_congr fun j hj => by rw [Nat.add_assoc, Nat.add_assoc]; exact h _ (by omega)
theorem words64_congr {a b : List Int} {p q : Nat} (h : ∀ i, i < 128 → nth a (p + i) = nth b (q + i)) : words64 a p 16 = words64 b q 16 := by
  unfold words64
  apply List.map_congr_left
  intro i hi
  rw [List.mem_range] at hi
  exact part64_congr 8 fun j hj => by rw [Nat.add_assoc, Nat.add_assoc]; exact h _ (by omega)
theorem block32_congr {K : List (BitVec 32)} {s : S8 32} {a b : List Int} {p q : Nat} (h : ∀ i, i < 64 → nth a (p + i) = nth b (q + i)) : block32 K s a p = block32 K s b q := by
  rw [block32, block32, words32_congr h]
theorem block64_congr {K : List (BitVec 64)} {s : S8 64} {a b : List Int} {p q : Nat} (h : ∀ i, i < 128 → nth a (p + i) = nth b (q + i)) : block64 K s a p = block64 K s b q := by
  rw [block64, block64, words64_congr h]
theorem blocks32_congr {K : List (BitVec 32)} {s : S8 32} {a b : List Int} (k : Nat) (h : ∀ i, i < 64 * k → nth a i = nth b i) : blocks32 K s a k = blocks32 K s b k := by
  induction k with
  | zero => rfl
  | succ k ih => rw [blocks32, blocks32, ih fun i hi => h i (by omega)]; exact block32_congr fun i hi => h _ (by omega)
theorem blocks64_congr {K : List (BitVec 64)} {s : S8 64} {a b : List Int} (k : Nat) (h : ∀ i, i < 128 * k → nth a i = nth b i) : blocks64 K s a k = blocks64 K s b k := by
  induction k with
  | zero => rfl
  | succ k ih => rw [blocks64, blocks64, ih fun i hi => h i (by omega)]; exact block64_congr fun i hi => h _ (by omega)

/-- The words and the rest of a state that has taken in T. -/
structure Mid (h : Int) (T : List Int) (S : List (BitVec 32)) (L : List (BitVec 64)) (r : List Int) : Prop where
  s : h = 1 → S = (blocks32 K256 start256 T (T.length / 64)).list
  l2 : h = 2 → L = (blocks64 K512 start384 T (T.length / 128)).list
  l3 : h = 3 → L = (blocks64 K512 start512 T (T.length / 128)).list
  r : ∀ i, i < T.length % shaBlock h → nth r i = nth T (shaBlock h * (T.length / shaBlock h) + i)

theorem shaSize_le (h : Int) : shaSize h ≤ 64 := by
  unfold shaSize
  by_cases h1 : h = 1
  · rw [if_pos h1]; omega
  by_cases h2 : h = 2
  · rw [if_neg h1, if_pos h2]; omega
  by_cases h3 : h = 3
  · rw [if_neg h1, if_neg h2, if_pos h3]; omega
  rw [if_neg h1, if_neg h2, if_neg h3]; omega
theorem shaBlock_le (h : Int) : shaBlock h ≤ 128 := by
  unfold shaBlock
  by_cases h1 : h = 1
  · rw [if_pos h1]; omega
  by_cases h2 : h = 2
  · rw [if_neg h1, if_pos h2]; omega
  by_cases h3 : h = 3
  · rw [if_neg h1, if_neg h2, if_pos h3]; omega
  rw [if_neg h1, if_neg h2, if_neg h3]; omega
/-- The three hashes. -/
def IsHash (h : Int) : Prop := h = 1 ∨ h = 2 ∨ h = 3
theorem IsHash.block {h : Int} (hh : IsHash h) : (h = 1 ∧ shaBlock h = 64) ∨ (h ≠ 1 ∧ shaBlock h = 128) := by
  rcases hh with rfl | rfl | rfl
  · exact .inl ⟨rfl, rfl⟩
  · exact .inr ⟨by omega, rfl⟩
  · exact .inr ⟨by omega, rfl⟩

/-- What lies in the rest behind a copy. -/
def laid (r ys : List Int) (at_ k : Nat) : List Int := r.take at_ ++ (ys.take k ++ r.drop (at_ + k))
theorem laid_len (r ys : List Int) (at_ k : Nat) (hr : at_ + k ≤ r.length) (hk : k ≤ ys.length) : (laid r ys at_ k).length = r.length := by
  simp [laid]; omega
theorem nth_laid_low (r ys : List Int) (at_ k i : Nat) (hr : at_ + k ≤ r.length) (hi : i < at_) : nth (laid r ys at_ k) i = nth r i := by
  rw [laid, nth_append_left _ _ _ (by simp; omega), nth_take _ _ _ hi]
theorem nth_laid_mid (r ys : List Int) (at_ k i : Nat) (hr : at_ + k ≤ r.length) (hk : k ≤ ys.length) (hi : i < k) : nth (laid r ys at_ k) (at_ + i) = nth ys i := by
  have h := nth_append_right (r.take at_) (ys.take k ++ r.drop (at_ + k)) i
  rw [List.length_take, Nat.min_eq_left (by omega)] at h
  rw [laid, h, nth_append_left _ _ _ (by simp; omega), nth_take _ _ _ hi]
theorem U8.laid {r ys : List Int} (hr : U8 r) (hy : U8 ys) (at_ k : Nat) : U8 (Sg.laid r ys at_ k) :=
  (hr.take (by omega) _).append (by omega) ((hy.take (by omega) _).append (by omega) (hr.drop (by omega) _))

/-- In the rest stands what the text ends with. -/
theorem laid_text {h : Int} (hh : IsHash h) {T ys r : List Int} {k : Nat} (hr : r.length = 128) (hrest : ∀ i, i < T.length % shaBlock h → nth r i = nth T (shaBlock h * (T.length / shaBlock h) + i))
    (hk : k ≤ ys.length) (hfit : T.length % shaBlock h + k ≤ shaBlock h) (i : Nat) (hi : i < T.length % shaBlock h + k) :
    nth (laid r ys (T.length % shaBlock h) k) i = nth (T ++ ys.take k) (shaBlock h * (T.length / shaBlock h) + i) := by
  have hb : shaBlock h ≤ 128 := shaBlock_le h
  have hdm := Nat.div_add_mod T.length (shaBlock h)
  generalize T.length % shaBlock h = at_ at *
  by_cases hlt : i < at_
  · rw [nth_laid_low _ _ _ _ _ (by omega) hlt, hrest i hlt, nth_append_left _ _ _ (by omega)]
  · obtain ⟨j, rfl⟩ : ∃ j, i = at_ + j := ⟨i - at_, by omega⟩
    rw [nth_laid_mid _ _ _ _ _ (by omega) hk (by omega), ← Nat.add_assoc, hdm, nth_append_right, nth_take _ _ _ (by omega)]

theorem Mid.go {h : Int} (hh : IsHash h) {T ys r : List Int} {S : List (BitVec 32)} {L : List (BitVec 64)} {k : Nat} (m : Mid h T S L r) (hr : r.length = 128) (hk : k ≤ ys.length) (hlt : T.length % shaBlock h + k < shaBlock h) :
    Mid h (T ++ ys.take k) S L (laid r ys (T.length % shaBlock h) k) := by
  have hl : (T ++ ys.take k).length = T.length + k := by simp; omega
  have hsz : 0 < shaBlock h := by omega
  have hdm := Nat.div_add_mod T.length (shaBlock h)
  have hq : (T.length + k) / shaBlock h = T.length / shaBlock h := by
    conv => lhs; rw [← hdm, Nat.add_assoc, Nat.mul_add_div hsz, Nat.div_eq_of_lt hlt, Nat.add_zero]
  have hm : (T.length + k) % shaBlock h = T.length % shaBlock h + k := by
    conv => lhs; rw [← hdm, Nat.add_assoc, Nat.mul_add_mod, Nat.mod_eq_of_lt hlt]
  have low : ∀ i, i < shaBlock h * (T.length / shaBlock h) → nth T i = nth (T ++ ys.take k) i := fun i hi => by
    rw [nth_append_left _ _ _ (by omega)]
  refine ⟨fun e => ?_, fun e => ?_, fun e => ?_, fun i hi => ?_⟩
  · subst e
    rw [m.s rfl, hl, show (T.length + k) / 64 = T.length / 64 from hq]
    exact congrArg S8.list (blocks32_congr _ low)
  · subst e
    rw [m.l2 rfl, hl, show (T.length + k) / 128 = T.length / 128 from hq]
    exact congrArg S8.list (blocks64_congr _ low)
  · subst e
    rw [m.l3 rfl, hl, show (T.length + k) / 128 = T.length / 128 from hq]
    exact congrArg S8.list (blocks64_congr _ low)
  · rw [hl, hm] at hi
    rw [hl, hq]
    exact laid_text hh hr m.r hk (by omega) i hi

theorem Mid.full {h : Int} (hh : IsHash h) {T ys r : List Int} {S : List (BitVec 32)} {L : List (BitVec 64)} {k : Nat} (m : Mid h T S L r) (hr : r.length = 128) (hk : k ≤ ys.length) (heq : T.length % shaBlock h + k = shaBlock h) :
    Mid h (T ++ ys.take k) (if h = 1 then (block32 K256 (S8.of S) (laid r ys (T.length % shaBlock h) k) 0).list else S)
      (if h = 1 then L else (block64 K512 (S8.of L) (laid r ys (T.length % shaBlock h) k) 0).list) (laid r ys (T.length % shaBlock h) k) := by
  have hl : (T ++ ys.take k).length = T.length + k := by simp; omega
  have hsz : 0 < shaBlock h := by rcases hh.block with ⟨_, e⟩ | ⟨_, e⟩ <;> omega
  have hdm := Nat.div_add_mod T.length (shaBlock h)
  have hq : (T.length + k) / shaBlock h = T.length / shaBlock h + 1 := by
    conv => lhs; rw [← hdm, Nat.add_assoc, heq, Nat.mul_add_div hsz, Nat.div_self hsz]
  have hm : (T.length + k) % shaBlock h = 0 := by
    conv => lhs; rw [← hdm, Nat.add_assoc, heq, Nat.mul_add_mod, Nat.mod_self]
  have low : ∀ i, i < shaBlock h * (T.length / shaBlock h) → nth T i = nth (T ++ ys.take k) i := fun i hi => by
    rw [nth_append_left _ _ _ (by omega)]
  have top : ∀ i, i < shaBlock h → nth (laid r ys (T.length % shaBlock h) k) (0 + i) = nth (T ++ ys.take k) (shaBlock h * (T.length / shaBlock h) + i) := fun i hi => by
    rw [Nat.zero_add]; exact laid_text hh hr m.r hk (by omega) i (by omega)
  refine ⟨fun e => ?_, fun e => ?_, fun e => ?_, fun i hi => ?_⟩
  · subst e
    rw [if_pos rfl, m.s rfl, S8.of_list, hl, show (T.length + k) / 64 = T.length / 64 + 1 from hq, blocks32, blocks32_congr (T.length / 64) low]
    exact congrArg S8.list (block32_congr top)
  · subst e
    rw [if_neg (by omega), m.l2 rfl, S8.of_list, hl, show (T.length + k) / 128 = T.length / 128 + 1 from hq, blocks64, blocks64_congr (T.length / 128) low]
    exact congrArg S8.list (block64_congr top)
  · subst e
    rw [if_neg (by omega), m.l3 rfl, S8.of_list, hl, show (T.length + k) / 128 = T.length / 128 + 1 from hq, blocks64, blocks64_congr (T.length / 128) low]
    exact congrArg S8.list (block64_congr top)
  · rw [hl, hm] at hi
    omega
theorem stCells_copy (h : Int) (S : List (BitVec 32)) (L : List (BitVec 64)) (r ys : List Int) (n : BitVec 64) (at_ m d : Nat) (hS : S.length = 8) (hL : L.length = 8) (hr : r.length = 128) (hf : at_ + m ≤ 128) (hd : ys.take d = ys.take m) :
    (stCells h S L r n).take (17 + at_) ++ ((ys.take d).map (Value.int .u8) ++ (stCells h S L r n).drop (17 + at_ + m)) = stCells h S L (laid r ys at_ m) n := by
  have e : stCells h S L r n = (.int .i64 h :: (S.map v32 ++ L.map v64)) ++ (r.map (Value.int .u8) ++ [v64 n]) := by simp [stCells]
  have l17 : (Value.int .i64 h :: (S.map v32 ++ L.map v64)).length = 17 := by simp [hS, hL]
  have e2 : stCells h S L (laid r ys at_ m) n = (.int .i64 h :: (S.map v32 ++ L.map v64)) ++ ((laid r ys at_ m).map (Value.int .u8) ++ [v64 n]) := by simp [stCells]
  rw [e, e2]
  generalize (Value.int .i64 h :: (S.map v32 ++ L.map v64)) = A at *
  rw [List.take_append, List.take_of_length_le (by omega), l17, Nat.add_sub_cancel_left, List.take_append_of_le_length (by simp; omega),
    List.drop_append, List.drop_of_length_le (by omega), l17, show 17 + at_ + m - 17 = at_ + m by omega, List.drop_append_of_le_length (by simp; omega), hd]
  simp [laid, List.map_take, List.map_drop]
end Go.Sg
