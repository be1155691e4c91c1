/- A mask in plain words. No program in sight. -/
import Derived.Test.YtponfoijmmegmaaDoorHmacN
set_option linter.unusedVariables false
set_option linter.unusedSimpArgs false
namespace Go.Sg
/-- A counter as four bytes. -/
def ctr (c : Nat) : List Int := [((c / 16777216 % 256 : Nat) : Int), ((c / 65536 % 256 : Nat) : Int), ((c / 256 % 256 : Nat) : Int), ((c % 256 : Nat) : Int)]
def mgf (h : Int) (seed : List Int) : Nat → List Int
  | 0 => []
  | k + 1 => mgf h seed k ++ sha h (seed ++ ctr k)
def maskOf (h : Int) (seed : List Int) (n : Nat) : List Int := (mgf h seed n).take n
theorem ctr_u8 (c : Nat) : U8 (ctr c) := .of_mem (by omega) (by
  intro x hx
  simp only [ctr, List.mem_cons, List.not_mem_nil, or_false] at hx
  omega)
theorem mgf_len (h : Int) (seed : List Int) (k : Nat) : (mgf h seed k).length = k * shaSize h := by
  induction k with
  | zero => simp [mgf]
  | succ k ih => rw [mgf, List.length_append, ih, sha_len, Nat.succ_mul]
theorem mgf_u8 (h : Int) (seed : List Int) (k : Nat) : U8 (mgf h seed k) := by
  induction k with
  | zero => exact .nil (by omega)
  | succ k ih => exact ih.append (by omega) (sha_u8 _ _)
theorem mgf_prefix (h : Int) (seed : List Int) (k j : Nat) : (mgf h seed (k + j)).take (mgf h seed k).length = mgf h seed k := by
  induction j with
  | zero => exact List.take_length
  | succ j ih =>
    rw [← Nat.add_assoc, mgf, List.take_append_of_le_length (by rw [mgf_len, mgf_len]; exact Nat.mul_le_mul_right _ (by omega))]
    exact ih
theorem mgf_take (h : Int) (seed : List Int) (k j n : Nat) (hn : n ≤ k * shaSize h) : (mgf h seed (k + j)).take n = (mgf h seed k).take n := by
  have e := mgf_prefix h seed k j
  have : (mgf h seed (k + j)).take n = ((mgf h seed (k + j)).take (mgf h seed k).length).take n := by
    rw [List.take_take, mgf_len, Nat.min_eq_left hn]
  rw [this, e]
theorem maskOf_eq {h : Int} (hh : IsHash h) (seed : List Int) (k n : Nat) (hn : n ≤ k * shaSize h) : (mgf h seed k).take n = maskOf h seed n := by
  have h1 := mgf_take h seed k n n hn
  have h2 := mgf_take h seed n k n (Nat.le_mul_of_pos_right n hh.size_le.2.1)
  rw [Nat.add_comm] at h2
  unfold maskOf
  rw [← h1, h2]
theorem maskOf_len {h : Int} (hh : IsHash h) (seed : List Int) (n : Nat) : (maskOf h seed n).length = n := by
  unfold maskOf
  rw [List.length_take, mgf_len]
  exact Nat.min_eq_left (Nat.le_mul_of_pos_right n hh.size_le.2.1)
theorem maskOf_u8 (h : Int) (seed : List Int) (n : Nat) : U8 (maskOf h seed n) := (mgf_u8 _ _ _).take (by omega) _
/-- What stands in the row behind c rounds. -/
def maskRow (h : Int) (seed : List Int) (n c : Nat) : List Int := (mgf h seed c).take n ++ List.replicate (n - c * shaSize h) 0
theorem maskRow_len {h : Int} (seed : List Int) (n c : Nat) : (maskRow h seed n c).length = n := by
  unfold maskRow
  rw [List.length_append, List.length_take, mgf_len, List.length_replicate]; omega
theorem maskRow_end {h : Int} (hh : IsHash h) (seed : List Int) (n c : Nat) (hc : n ≤ c * shaSize h) : maskRow h seed n c = maskOf h seed n := by
  unfold maskRow
  rw [show n - c * shaSize h = 0 by omega, List.replicate_zero, List.append_nil, maskOf_eq hh seed c n hc]
theorem maskRow_mid (h : Int) (seed : List Int) (n c : Nat) (hc : c * shaSize h ≤ n) : maskRow h seed n c = mgf h seed c ++ List.replicate (n - c * shaSize h) 0 := by
  unfold maskRow
  rw [List.take_of_length_le (by rw [mgf_len]; exact hc)]
theorem maskRow_next (h : Int) (seed : List Int) (n c k : Nat) (hc : c * shaSize h ≤ n) (hk : k = min (shaSize h) (n - c * shaSize h)) :
    mgf h seed c ++ ((sha h (seed ++ ctr c)).take k ++ List.replicate (n - c * shaSize h - k) 0) = maskRow h seed n (c + 1) := by
  have e1 : (mgf h seed (c + 1)).take n = mgf h seed c ++ (sha h (seed ++ ctr c)).take k := by
    rw [mgf, List.take_append, mgf_len, List.take_of_length_le (l := mgf h seed c) (by rw [mgf_len]; exact hc)]
    congr 1
    subst hk
    rcases Nat.le_total (shaSize h) (n - c * shaSize h) with hle | hle
    · rw [Nat.min_eq_left hle, List.take_of_length_le (by rw [sha_len]; exact hle), List.take_of_length_le (by rw [sha_len]; exact Nat.le_refl _)]
    · rw [Nat.min_eq_right hle]
  have e2 : n - (c + 1) * shaSize h = n - c * shaSize h - k := by rw [Nat.succ_mul]; omega
  unfold maskRow
  rw [e1, e2, List.append_assoc]
end Go.Sg
