/- Decimal digits: plain laws, no program. -/
import Derived.Test.YtacmheeodhjlbaaKit
namespace Go.Proofs.Ytacmheeodhjlbaa

/-- The digits of a number, the lowest first. -/
def digs (n : Nat) : List Int := if h : n = 0 then [] else ((n % 10 : Nat) : Int) :: digs (n / 10)
termination_by n
decreasing_by exact Nat.div_lt_self (by omega) (by omega)
theorem digs_zero : digs 0 = [] := by rw [digs, dif_pos rfl]
theorem digs_pos {n : Nat} (h : 0 < n) : digs n = ((n % 10 : Nat) : Int) :: digs (n / 10) := by
  conv => lhs; rw [digs, dif_neg (by omega)]
theorem div_pow_succ (n i : Nat) : n / 10 ^ (i + 1) = n / 10 / 10 ^ i := by
  rw [Nat.pow_succ, Nat.mul_comm, Nat.div_div_eq_div_mul]
theorem div_pow_succ' (n i : Nat) : n / 10 ^ (i + 1) = n / 10 ^ i / 10 := by
  rw [Nat.pow_succ, Nat.div_div_eq_div_mul]
theorem digs_lt (n i : Nat) : i < (digs n).length ↔ 0 < n / 10 ^ i := by
  induction i generalizing n with
  | zero =>
    rcases Nat.eq_zero_or_pos n with h | h
    · subst h; simp [digs_zero]
    · rw [digs_pos h]; simp; omega
  | succ i ih =>
    rw [div_pow_succ]
    rcases Nat.eq_zero_or_pos n with h | h
    · subst h; simp [digs_zero]
    · rw [digs_pos h, ← ih]; simp
theorem digs_get (n i : Nat) : (digs n).getD i 0 = ((n / 10 ^ i % 10 : Nat) : Int) := by
  induction i generalizing n with
  | zero =>
    rcases Nat.eq_zero_or_pos n with h | h
    · subst h; simp [digs_zero]
    · rw [digs_pos h]; simp
  | succ i ih =>
    rw [div_pow_succ, ← ih]
    rcases Nat.eq_zero_or_pos n with h | h
    · subst h; simp [digs_zero]
    · rw [digs_pos h]; simp
theorem digs_nil (n : Nat) : (digs n).length = 0 ↔ n = 0 := by
  have := digs_lt n 0
  simp at this
  omega
theorem digs_len {n N : Nat} (h : n < 10 ^ N) : (digs n).length ≤ N := by
  rcases Nat.lt_or_ge N (digs n).length with h' | h'
  · have := (digs_lt n N).1 h'
    rw [Nat.div_eq_of_lt h] at this
    omega
  · exact h'
theorem digs_top (n : Nat) : n < 10 ^ (digs n).length := by
  rcases Nat.lt_or_ge n (10 ^ (digs n).length) with h | h
  · exact h
  · have := (digs_lt n (digs n).length).2 (Nat.div_pos h (Nat.pow_pos (by omega)))
    omega
/-- The list holds the digits of n, the lowest first, with noughts behind them. -/
def Is (l : List Int) (n : Nat) : Prop := n < 10 ^ l.length ∧ ∀ i, i < l.length → l.getD i 0 = ((n / 10 ^ i % 10 : Nat) : Int)
theorem Is.get {l : List Int} {n : Nat} (h : Is l n) (i : Nat) : l.getD i 0 = ((n / 10 ^ i % 10 : Nat) : Int) := by
  rcases Nat.lt_or_ge i l.length with hi | hi
  · exact h.2 i hi
  · rw [List.getD_eq_getElem?_getD, List.getElem?_eq_none hi, Nat.div_eq_of_lt (Nat.lt_of_lt_of_le h.1 (Nat.pow_le_pow_right (by omega) hi))]; rfl
theorem Is.over {l : List Int} {n i : Nat} (h : Is l n) (hi : l.length ≤ i) : n / 10 ^ i = 0 := Nat.div_eq_of_lt (Nat.lt_of_lt_of_le h.1 (Nat.pow_le_pow_right (by omega) hi))
theorem Is.of_digs (n : Nat) : Is (digs n) n := ⟨digs_top n, fun i _ => digs_get n i⟩
theorem lt_pow_of_div {n i : Nat} (h : n / 10 ^ i = 0) : n < 10 ^ i := by
  rcases Nat.lt_or_ge n (10 ^ i) with h' | h'
  · exact h'
  · have := Nat.div_pos h' (Nat.pow_pos (n := i) (show 0 < 10 by omega)); omega
theorem Is.eq_digs {l : List Int} {n : Nat} (h : Is l n) (hl : l.length = (digs n).length) : l = digs n := by
  apply List.ext_getElem? 
  intro i
  rcases Nat.lt_or_ge i l.length with hi | hi
  · have e1 := h.get i
    have e2 := digs_get n i
    rw [List.getD_eq_getElem?_getD, List.getElem?_eq_getElem hi] at e1
    rw [List.getD_eq_getElem?_getD, List.getElem?_eq_getElem (by omega)] at e2
    rw [List.getElem?_eq_getElem hi, List.getElem?_eq_getElem (by omega)]
    simp only [Option.getD_some] at e1 e2
    rw [e1, e2]
  · rw [List.getElem?_eq_none hi, List.getElem?_eq_none (by omega)]
/-- One digit more. -/
theorem snoc_get {out : List Int} {v : Nat} {i : Nat} (P : Nat → Int) (h : ∀ i, i < out.length → out.getD i 0 = P i) (hv : (v : Int) = P out.length) (hi : i < (out ++ [(v : Int)]).length) : (out ++ [(v : Int)]).getD i 0 = P i := by
  rw [List.length_append, List.length_singleton] at hi
  rw [List.getD_eq_getElem?_getD]
  rcases Nat.lt_or_ge i out.length with h' | h'
  · rw [List.getElem?_append_left h', ← List.getD_eq_getElem?_getD]; exact h i h'
  · have : i = out.length := by omega
    subst this
    rw [List.getElem?_append_right (Nat.le_refl _)]; simpa using hv

theorem div_lt_iff {a b n : Nat} (h : a / n ≠ b / n) : a / n < b / n ↔ a < b := by
  constructor
  · intro h'
    rcases Nat.lt_or_ge a b with h2 | h2
    · exact h2
    · have := Nat.div_le_div_right (c := n) h2; omega
  · intro h'
    have := Nat.div_le_div_right (c := n) (Nat.le_of_lt h'); omega
theorem digs_big {a b : Nat} (h : (digs a).length < (digs b).length) : a < b := by
  have h1 := digs_top a
  have h2 := (digs_lt b (digs a).length).1 h
  rcases Nat.lt_or_ge a b with h' | h'
  · exact h'
  · have := Nat.div_eq_of_lt (Nat.lt_of_le_of_lt h' h1); omega
theorem digs_mem {n : Nat} {x : Int} (h : x ∈ digs n) : 0 ≤ x ∧ x < 10 := by
  obtain ⟨i, hi, rfl⟩ := List.getElem_of_mem h
  have := digs_get n i
  rw [List.getD_eq_getElem?_getD, List.getElem?_eq_getElem hi, Option.getD_some] at this
  rw [this]
  omega
end Go.Proofs.Ytacmheeodhjlbaa
