/- Plain lemmas: the subsets of a word, in order: the next one behind s is (s - m) & m. -/
import Derived.Test.YtmmhcfbnelggfaaDoorNums
namespace Go.Proofs.YtmmhcfbnelggfaaDoor
open Go.RowKit

theorem mod_bit (n r : Nat) : n % 2 ^ (r + 1) = n % 2 ^ r + (if n.testBit r then 2 ^ r else 0) := by
  rw [Nat.pow_succ, Nat.mod_mul, Nat.testBit_eq_decide_div_mod_eq]
  have h := Nat.mod_two_eq_zero_or_one (n / 2 ^ r)
  rcases h with h | h <;> simp [h]

theorem sub_lt (f : Nat → Bool) (n n' : Nat) (k : Nat) (h : n % 2 ^ rankTo f k < n' % 2 ^ rankTo f k) : wordTo (subOf f n) k < wordTo (subOf f n') k := by
  induction k with
  | zero => simp [rankTo, Nat.mod_one] at h
  | succ k ih =>
    rw [wordTo, wordTo]
    by_cases hf : f k = true
    · rw [rankTo, if_pos hf, mod_bit, mod_bit] at h
      have hs : ∀ x, subOf f x k = x.testBit (rankTo f k) := fun x => by simp [subOf, hf]
      rw [hs, hs]
      have h1 := Nat.mod_lt n (Nat.two_pow_pos (rankTo f k))
      have h2 := Nat.mod_lt n' (Nat.two_pow_pos (rankTo f k))
      have h3 := wordTo_lt (subOf f n) k
      have h4 := wordTo_lt (subOf f n') k
      cases hb : n.testBit (rankTo f k) <;> cases hb' : n'.testBit (rankTo f k) <;> simp only [hb, hb', if_true, Bool.false_eq_true, if_false] at h ⊢
      · have := ih (by omega); omega
      · omega
      · omega
      · have := ih (by omega); omega
    · rw [rankTo, if_neg hf] at h
      have hs : ∀ x, subOf f x k = false := fun x => by simp [subOf, hf]
      rw [hs, hs]
      simp only [Bool.false_eq_true, if_false]
      exact ih h

theorem sub_eq (f : Nat → Bool) (n n' : Nat) (k : Nat) (h : n % 2 ^ rankTo f k = n' % 2 ^ rankTo f k) : wordTo (subOf f n) k = wordTo (subOf f n') k := by
  induction k with
  | zero => rfl
  | succ k ih =>
    rw [wordTo, wordTo]
    by_cases hf : f k = true
    · rw [rankTo, if_pos hf, mod_bit, mod_bit] at h
      have hs : ∀ x, subOf f x k = x.testBit (rankTo f k) := fun x => by simp [subOf, hf]
      rw [hs, hs]
      have h1 := Nat.mod_lt n (Nat.two_pow_pos (rankTo f k))
      have h2 := Nat.mod_lt n' (Nat.two_pow_pos (rankTo f k))
      cases hb : n.testBit (rankTo f k) <;> cases hb' : n'.testBit (rankTo f k) <;> simp only [hb, hb', if_true, Bool.false_eq_true, if_false] at h ⊢
      · have := ih (by omega); omega
      · omega
      · omega
      · have := ih (by omega); omega
    · rw [rankTo, if_neg hf] at h
      have hs : ∀ x, subOf f x k = false := fun x => by simp [subOf, hf]
      rw [hs, hs]
      simp only [Bool.false_eq_true, if_false]
      exact ih h

theorem wordTo_all (f : Nat → Bool) (k : Nat) : wordTo (subOf f (2 ^ rankTo f k - 1)) k = wordTo f k := by
  suffices h : ∀ r, rankTo f k ≤ r → wordTo (subOf f (2 ^ r - 1)) k = wordTo f k from h _ (Nat.le_refl _)
  induction k with
  | zero => intro _ _; rfl
  | succ k ih =>
    intro r hr
    rw [wordTo, wordTo, ih r (by rw [rankTo] at hr; omega)]
    have : subOf f (2 ^ r - 1) k = f k := by
      cases hf : f k
      · simp [subOf, hf]
      · rw [rankTo, hf] at hr
        simp only [if_true] at hr
        simp [subOf, hf, Nat.testBit_two_pow_sub_one, show rankTo f k < r by omega]
    rw [this]

/-- n + 1 at bit r: a carry comes just where all lower bits of n are set. -/
theorem succ_bit (n r : Nat) : (n + 1).testBit r = (n.testBit r != decide (n % 2 ^ r = 2 ^ r - 1)) ∧ ((n + 1) % 2 ^ r = if n % 2 ^ r = 2 ^ r - 1 then 0 else n % 2 ^ r + 1) := by
  have hp := Nat.two_pow_pos r
  have h := Nat.div_add_mod n (2 ^ r)
  have hm := Nat.mod_lt n hp
  rw [Nat.testBit_eq_decide_div_mod_eq, Nat.testBit_eq_decide_div_mod_eq]
  by_cases hc : n % 2 ^ r = 2 ^ r - 1
  · have e : n + 1 = 2 ^ r * (n / 2 ^ r + 1) := by rw [Nat.mul_add, Nat.mul_one]; omega
    have d : (n + 1) / 2 ^ r = n / 2 ^ r + 1 := by rw [e, Nat.mul_div_cancel_left _ hp]
    constructor
    · rw [d]
      rcases Nat.mod_two_eq_zero_or_one (n / 2 ^ r) with h | h
      · have h' : (n / 2 ^ r + 1) % 2 = 1 := by omega
        simp [hc, h, h']
      · have h' : (n / 2 ^ r + 1) % 2 = 0 := by omega
        simp [hc, h, h']
    · rw [if_pos hc, e, Nat.mul_mod_right]
  · have e : n + 1 = 2 ^ r * (n / 2 ^ r) + (n % 2 ^ r + 1) := by omega
    have hl : n % 2 ^ r + 1 < 2 ^ r := by omega
    have d : (n + 1) / 2 ^ r = n / 2 ^ r := by rw [e, Nat.mul_add_div hp, Nat.div_eq_of_lt hl, Nat.add_zero]
    constructor
    · rw [d]; simp [hc]
    · rw [if_neg hc, e, Nat.mul_add_mod, Nat.mod_eq_of_lt hl]

theorem sub_next (f : Nat → Bool) (n k : Nat) : ∃ Y c : Nat, wordTo (subOf f n) k + (2 ^ k - 1 - wordTo f k) + 1 = Y + c * 2 ^ k ∧ Y < 2 ^ k ∧ (∀ i, i < k → (Y.testBit i && f i) = subOf f (n + 1) i) ∧ c = if n % 2 ^ rankTo f k = 2 ^ rankTo f k - 1 then 1 else 0 := by
  induction k with
  | zero => exact ⟨0, 1, by simp [wordTo], by simp, fun i h => by omega, by simp [rankTo, Nat.mod_one]⟩
  | succ k ih =>
    obtain ⟨Y, c, h1, h2, h3, h4⟩ := ih
    have hw := wordTo_lt f k
    have hp := Nat.two_pow_pos k
    have keep : ∀ Z : Nat, (∀ i, i < k → Z.testBit i = Y.testBit i) → (Z.testBit k && f k) = subOf f (n + 1) k → ∀ i, i < k + 1 → (Z.testBit i && f i) = subOf f (n + 1) i := by
      intro Z hz hk i hi
      rcases Nat.lt_or_ge i k with h | h
      · rw [hz i h, h3 i h]
      · obtain rfl : i = k := by omega
        exact hk
    have hY : Y.testBit k = false := Nat.testBit_lt_two_pow h2
    have up : ∀ i, i < k → (2 ^ k + Y).testBit i = Y.testBit i := fun i hi => Nat.testBit_two_pow_add_gt hi Y
    have upk : (2 ^ k + Y).testBit k = true := by rw [Nat.testBit_two_pow_add_eq, hY]; rfl
    by_cases hf : f k = true
    · have hs : subOf f n k = n.testBit (rankTo f k) := by simp [subOf, hf]
      have hs1 : subOf f (n + 1) k = (n + 1).testBit (rankTo f k) := by simp [subOf, hf]
      have hb := (succ_bit n (rankTo f k)).1
      have hm := mod_bit n (rankTo f k)
      have hml := Nat.mod_lt n (Nat.two_pow_pos (rankTo f k))
      have hpr := Nat.two_pow_pos (rankTo f k)
      rw [wordTo, wordTo, hs, if_pos hf, Nat.pow_succ]
      rw [rankTo, if_pos hf, hm, Nat.pow_succ]
      by_cases hc : n % 2 ^ rankTo f k = 2 ^ rankTo f k - 1
      · rw [if_pos hc] at h4
        subst h4
        cases hbit : n.testBit (rankTo f k)
        · refine ⟨2 ^ k + Y, 0, by simp only [Bool.false_eq_true, if_false]; omega, by omega, keep _ up (by rw [upk, hs1, hb, hbit]; simp [hf, hc]), ?_⟩
          rw [if_neg]; simp only [Bool.false_eq_true, if_false]; omega
        · refine ⟨Y, 1, by simp only [if_true]; omega, by omega, keep _ (fun _ _ => rfl) (by rw [hY, hs1, hb, hbit]; simp [hc]), ?_⟩
          rw [if_pos]; simp only [if_true]; omega
      · rw [if_neg hc] at h4
        subst h4
        cases hbit : n.testBit (rankTo f k)
        · refine ⟨Y, 0, by simp only [Bool.false_eq_true, if_false]; omega, by omega, keep _ (fun _ _ => rfl) (by rw [hY, hs1, hb, hbit]; simp [hc]), ?_⟩
          rw [if_neg]; simp only [Bool.false_eq_true, if_false]; omega
        · refine ⟨2 ^ k + Y, 0, by simp only [if_true]; omega, by omega, keep _ up (by rw [upk, hs1, hb, hbit]; simp [hf, hc]), ?_⟩
          rw [if_neg]; simp only [if_true]; omega
    · have hs : ∀ x, subOf f x k = false := fun x => by simp [subOf, hf]
      have hff : f k = false := by simpa using hf
      rw [wordTo, wordTo, hs, if_neg hf, Nat.pow_succ]
      rw [rankTo, if_neg hf]
      simp only [Bool.false_eq_true, if_false, Nat.add_zero]
      by_cases hc : n % 2 ^ rankTo f k = 2 ^ rankTo f k - 1
      · rw [if_pos hc] at h4 ⊢
        subst h4
        exact ⟨Y, 1, by omega, by omega, keep _ (fun _ _ => rfl) (by rw [hs, hff]; simp), rfl⟩
      · rw [if_neg hc] at h4 ⊢
        subst h4
        exact ⟨2 ^ k + Y, 0, by omega, by omega, keep _ up (by rw [hs, hff]; simp), rfl⟩

/-- How many numbers a word has. -/
def cnt (m : Nat) : Nat := rankTo m.testBit 64
/-- The subset of m with n ahead of it, as a word. -/
def subW (m n : Nat) : Nat := word (subOf m.testBit n)
theorem subW_lt (m n : Nat) : subW m n < 18446744073709551616 := word_lt _
theorem word_self {m : Nat} (hm : m < 18446744073709551616) : word m.testBit = m := (eq_word hm (fun _ _ => rfl)).symm
theorem subW_zero (m : Nat) : subW m 0 = 0 := by
  apply Nat.eq_of_testBit_eq; intro i; rw [subW, word_bit]; simp [subOf]
theorem subW_rise (m : Nat) {n n' : Nat} (h : n < n') (h' : n' < 2 ^ cnt m) : subW m n < subW m n' := by
  refine sub_lt _ _ _ _ ?_
  show n % 2 ^ cnt m < n' % 2 ^ cnt m
  rw [Nat.mod_eq_of_lt (Nat.lt_trans h h'), Nat.mod_eq_of_lt h']
  exact h
theorem subW_last {m : Nat} (hm : m < 18446744073709551616) : subW m (2 ^ cnt m - 1) = m := by
  show wordTo _ 64 = m
  rw [cnt, wordTo_all]
  exact word_self hm
theorem subW_next {m : Nat} (hm : m < 18446744073709551616) (n : Nat) : (subW m n + (18446744073709551616 - m)) % 18446744073709551616 &&& m = subW m (n + 1) := by
  obtain ⟨Y, c, h1, h2, h3, _⟩ := sub_next m.testBit n 64
  have hw : wordTo m.testBit 64 = m := word_self hm
  rw [hw] at h1
  have e : (subW m n + (18446744073709551616 - m)) % 18446744073709551616 = Y := by
    have h1' : subW m n + (18446744073709551615 - m) + 1 = Y + c * 18446744073709551616 := h1
    have h2' : Y < 18446744073709551616 := h2
    omega
  rw [e]
  refine eq_word (Nat.lt_of_le_of_lt Nat.and_le_right hm) fun i hi => ?_
  rw [Nat.testBit_and]
  exact h3 i hi
end Go.Proofs.YtmmhcfbnelggfaaDoor
