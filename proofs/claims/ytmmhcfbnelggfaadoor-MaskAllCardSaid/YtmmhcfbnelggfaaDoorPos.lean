/- Plain lemmas: places in a set: the number at a place, the next one, the lowest bit taken away. -/
import Derived.Test.YtmmhcfbnelggfaaDoorPop
import Derived.Test.YtmmhcfbnelggfaaDoorMask
import Derived.Lib.TrailingZeros
namespace Go.Proofs.YtmmhcfbnelggfaaDoor
open Go.RowKit

theorem rankTo_mono (f : Nat → Bool) {i j : Nat} (h : i ≤ j) : rankTo f i ≤ rankTo f j := by
  obtain ⟨d, rfl⟩ := Nat.le.dest h
  rw [rankTo_add]; omega
theorem rankTo_lt (f : Nat → Bool) {i j : Nat} (h : i < j) (hf : f i = true) : rankTo f i < rankTo f j := by
  have h1 := rankTo_mono f (show i + 1 ≤ j from h)
  rw [rankTo, if_pos hf] at h1
  omega
theorem rankTo_same (f : Nat → Bool) {i j : Nat} (h : i ≤ j) (hf : ∀ l, i ≤ l → l < j → f l = false) : rankTo f j = rankTo f i := by
  obtain ⟨d, rfl⟩ := Nat.le.dest h
  rw [rankTo_add]
  have : rankTo (fun l => f (i + l)) d = rankTo (fun _ => false) d := rankTo_congr fun l hl => hf _ (by omega) (by omega)
  rw [this]
  have z : ∀ d, rankTo (fun _ => false) d = 0 := fun d => by induction d with
    | zero => rfl
    | succ d ih => rw [rankTo, ih]; rfl
  rw [z]; rfl
theorem rankTo_below (f : Nat → Bool) (c n : Nat) (h : c ≤ n) : rankTo (fun j => f j && decide (j < c)) n = rankTo f c := by
  rw [rankTo_same _ h (fun l h1 _ => by simp; intro _; omega)]
  exact rankTo_congr fun i hi => by simp [hi]
theorem rank_exists (f : Nat → Bool) (k n : Nat) (h : k < rankTo f n) : ∃ j, j < n ∧ f j = true ∧ rankTo f j = k := by
  induction n with
  | zero => simp [rankTo] at h
  | succ n ih =>
    rw [rankTo] at h
    by_cases h1 : k < rankTo f n
    · obtain ⟨j, h2, h3⟩ := ih h1
      exact ⟨j, by omega, h3⟩
    · split at h
      · rename_i hf
        exact ⟨n, by omega, hf, by omega⟩
      · omega

theorem find_some {p : Nat → Bool} {n j : Nat} (hj : j < n) (hp : p j = true) (h : ∀ i, i < j → p i = false) : (List.range n).find? p = some j := by
  rw [List.find?_range_eq_some]
  exact ⟨hp, by simpa using hj, fun i hi => by simp [h i hi]⟩
theorem find_none {p : Nat → Bool} {n : Nat} (h : ∀ i, i < n → p i = false) : (List.range n).find? p = none := by
  rw [List.find?_range_eq_none]
  exact fun i hi => by simp [h i hi]

/-- The number of a set at place k. -/
def selN (f : Nat → Bool) (k : Int) : Option Nat := (List.range 64).find? fun j => f j && decide ((rankTo f j : Int) = k)
/-- The next number of a set behind i. -/
def nextN (f : Nat → Bool) (i : Int) : Option Nat := (List.range 64).find? fun j => decide (i < (j : Int)) && f j
/-- What is told of such a number. -/
def told (o : Option Nat) : Value := .tuple #[.int .i64 (o.getD 0 : Nat), .bool o.isSome]
theorem selN_some {f : Nat → Bool} {k : Int} {j : Nat} (hj : j < 64) (hf : f j = true) (hr : (rankTo f j : Int) = k) : selN f k = some j :=
  find_some hj (by simp [hf, hr]) fun i hi => by
    cases h : f i
    · simp
    · have := rankTo_lt f hi h
      simp; omega
theorem selN_none {f : Nat → Bool} {k : Int} (h : k < 0 ∨ (rankTo f 64 : Int) ≤ k) : selN f k = none :=
  find_none fun i hi => by
    cases hf : f i
    · simp
    · have := rankTo_lt f hi hf
      simp; omega
theorem nextN_some {f : Nat → Bool} {i : Int} {j : Nat} (hj : j < 64) (hf : f j = true) (hi : i < (j : Int)) (h : ∀ l : Nat, i < (l : Int) → l < j → f l = false) : nextN f i = some j :=
  find_some hj (by simp [hf, hi]) fun l hl => by
    by_cases h1 : i < (l : Int)
    · simp [h l h1 hl]
    · simp [h1]
theorem nextN_none {f : Nat → Bool} {i : Int} (h : ∀ l : Nat, i < (l : Int) → l < 64 → f l = false) : nextN f i = none :=
  find_none fun l hl => by
    by_cases h1 : i < (l : Int)
    · simp [h l h1 hl]
    · simp [h1]
theorem sel_cases (f : Nat → Bool) (k : Int) : (k < 0 ∨ (rankTo f 64 : Int) ≤ k) ∨ ∃ j, j < 64 ∧ f j = true ∧ (rankTo f j : Int) = k := by
  by_cases h : k < 0 ∨ (rankTo f 64 : Int) ≤ k
  · exact .inl h
  · obtain ⟨j, h1, h2, h3⟩ := rank_exists f k.toNat 64 (by omega)
    exact .inr ⟨j, h1, h2, by omega⟩
theorem least_exists (f : Nat → Bool) (i n : Nat) (h : ∃ j, i ≤ j ∧ j < n ∧ f j = true) : ∃ j, i ≤ j ∧ j < n ∧ f j = true ∧ ∀ l, i ≤ l → l < j → f l = false := by
  induction n with
  | zero => obtain ⟨j, _, h2, _⟩ := h; omega
  | succ n ih =>
    by_cases h1 : ∃ j, i ≤ j ∧ j < n ∧ f j = true
    · obtain ⟨j, h2, h3, h4⟩ := ih h1
      exact ⟨j, h2, by omega, h4⟩
    · obtain ⟨j, h2, h3, h4⟩ := h
      have hn : j = n := by
        rcases Nat.lt_or_ge j n with h5 | h5
        · exact absurd ⟨j, h2, h5, h4⟩ h1
        · omega
      subst hn
      refine ⟨j, h2, h3, h4, fun l h5 h6 => ?_⟩
      cases h7 : f l
      · rfl
      · exact absurd ⟨l, h5, h6, h7⟩ h1
theorem next_cases (f : Nat → Bool) (i : Int) : (∀ l : Nat, i < (l : Int) → l < 64 → f l = false) ∨ ∃ j : Nat, j < 64 ∧ f j = true ∧ i < (j : Int) ∧ ∀ l : Nat, i < (l : Int) → l < j → f l = false := by
  by_cases h : ∃ j, (i + 1).toNat ≤ j ∧ j < 64 ∧ f j = true
  · obtain ⟨j, h1, h2, h3, h4⟩ := least_exists f _ 64 h
    exact .inr ⟨j, h2, h3, by omega, fun l h5 h6 => h4 l (by omega) h6⟩
  · refine .inl fun l h1 h2 => ?_
    cases h3 : f l
    · rfl
    · exact absurd ⟨l, by omega, h2, h3⟩ h
/-- The next number behind i is the one at the place of the numbers up to i. -/
theorem next_sel (f : Nat → Bool) (i : Int) (h1 : -1 ≤ i) (h2 : i ≤ 63) : nextN f i = selN f (rankTo f (i + 1).toNat : Nat) := by
  rcases next_cases f i with h | ⟨j, h3, h4, h5, h6⟩
  · rw [nextN_none h, selN_none]
    rw [rankTo_same f (show (i + 1).toNat ≤ 64 by omega) (fun l h3 h4 => h l (by omega) h4)]
    omega
  · rw [nextN_some h3 h4 h5 h6, selN_some h3 h4]
    rw [rankTo_same f (show (i + 1).toNat ≤ j by omega) (fun l h7 h8 => h6 l (by omega) h8)]

/-- The numbers below i, as a word. -/
def aheadN (i : Int) : Nat := 2 ^ min i.toNat 64 - 1
theorem aheadN_bit (i : Int) (j : Nat) : (aheadN i).testBit j = decide (j < min i.toNat 64) := Nat.testBit_two_pow_sub_one _ _
theorem aheadN_lt (i : Int) : aheadN i < 18446744073709551616 := by
  unfold aheadN
  have : 2 ^ min i.toNat 64 ≤ 2 ^ 64 := Nat.pow_le_pow_right (by omega) (by omega)
  have := Nat.two_pow_pos (min i.toNat 64)
  omega
theorem high_bit {a : Nat} (ha : a < 18446744073709551616) {i : Nat} (hi : 64 ≤ i) : a.testBit i = false :=
  Nat.testBit_lt_two_pow (Nat.lt_of_lt_of_le ha (show 2 ^ 64 ≤ 2 ^ i from Nat.pow_le_pow_right (by omega) hi))
/-- How many numbers of a word lie below i. -/
theorem cnt_ahead (m : Nat) (i : Int) : cnt (m &&& aheadN i) = rankTo m.testBit (min i.toNat 64) := by
  rw [← rankTo_below m.testBit _ 64 (Nat.min_le_right _ _)]
  exact rankTo_congr fun j _ => by rw [Nat.testBit_and, aheadN_bit]

/-- The lowest bit of a word. -/
theorem low_spec (m : Nat) (h0 : m ≠ 0) (h : m < 18446744073709551616) : Lib.ctz 64 m < 64 ∧ m.testBit (Lib.ctz 64 m) = true ∧ (∀ l, l < Lib.ctz 64 m → m.testBit l = false) ∧ ∀ j, (m &&& (m - 1)).testBit j = (m.testBit j && decide (j ≠ Lib.ctz 64 m)) := by
  obtain ⟨q, hq, hk⟩ := Lib.ctzFrom_spec 64 m (by omega) h
  have e : Lib.ctz 64 m = Lib.ctzFrom 64 m := by simp [Lib.ctz, h0]
  rw [e]
  generalize Lib.ctzFrom 64 m = k at *
  have hp := Nat.two_pow_pos k
  have b1 : ∀ j, m.testBit j = if j < k then false else (2 * q + 1).testBit (j - k) := fun j => by
    have := Nat.testBit_two_pow_mul_add (i := k) (2 * q + 1) (b := 0) hp j
    rw [Nat.add_zero, ← hq] at this
    rw [this, Nat.zero_testBit]
  have hm1 : m - 1 = 2 ^ k * (2 * q) + (2 ^ k - 1) := by
    rw [hq, Nat.mul_add, Nat.mul_one]; omega
  have b2 : ∀ j, (m - 1).testBit j = if j < k then true else (2 * q).testBit (j - k) := fun j => by
    rw [hm1, Nat.testBit_two_pow_mul_add (i := k) (2 * q) (show 2 ^ k - 1 < 2 ^ k by omega) j]
    split
    · rename_i h1; rw [Nat.testBit_two_pow_sub_one]; simp [h1]
    · rfl
  refine ⟨hk, ?_, ?_, ?_⟩
  · rw [b1, if_neg (by omega), Nat.sub_self, Nat.testBit_zero]; simp
  · intro l hl; rw [b1, if_pos hl]
  · intro j
    rw [Nat.testBit_and, b1, b2]
    rcases Nat.lt_trichotomy j k with h1 | h1 | h1
    · simp [h1]
    · subst h1; simp
    · have h2 : ¬ j < k := by omega
      obtain ⟨d, hd⟩ : ∃ d, j - k = d + 1 := ⟨j - k - 1, by omega⟩
      rw [if_neg h2, if_neg h2, hd, Nat.testBit_succ, Nat.testBit_succ, show (2 * q + 1) / 2 = q by omega, show 2 * q / 2 = q by omega]
      simp; omega
theorem next_low (m : Nat) (h0 : m ≠ 0) (h : m < 18446744073709551616) (i : Int) (hi : i < 0) : nextN m.testBit i = some (Lib.ctz 64 m) :=
  have ⟨h1, h2, h3, _⟩ := low_spec m h0 h
  nextN_some h1 h2 (by omega) (fun l _ hl => h3 l hl)
/-- The number at place 0 is the lowest. -/
theorem sel_low (m : Nat) (h0 : m ≠ 0) (h : m < 18446744073709551616) {j : Nat} (hj : m.testBit j = true) (hr : rankTo m.testBit j = 0) : j = Lib.ctz 64 m := by
  have ⟨_, h2, h3, _⟩ := low_spec m h0 h
  rcases Nat.lt_trichotomy j (Lib.ctz 64 m) with h1 | h1 | h1
  · rw [h3 j h1] at hj; cases hj
  · exact h1
  · have := rankTo_lt m.testBit h1 h2; omega
/-- Behind the lowest bit that is taken away the places move down by one. -/
theorem sel_step (m : Nat) (h0 : m ≠ 0) (h : m < 18446744073709551616) {j k : Nat} (hj : m.testBit j = true) (hr : rankTo m.testBit j = k + 1) : (m &&& (m - 1)).testBit j = true ∧ rankTo (m &&& (m - 1)).testBit j = k := by
  have ⟨_, h2, h3, h4⟩ := low_spec m h0 h
  generalize Lib.ctz 64 m = l at *
  have hlj : l < j := by
    rcases Nat.lt_trichotomy l j with h1 | h1 | h1
    · exact h1
    · subst h1
      rw [rankTo_same m.testBit (Nat.zero_le _) (fun i _ hi => h3 i hi)] at hr
      simp [rankTo] at hr
    · rw [h3 j h1] at hj; cases hj
  refine ⟨by rw [h4, hj]; simp; omega, ?_⟩
  have s1 : rankTo m.testBit l = 0 := rankTo_same m.testBit (Nat.zero_le _) (fun i _ hi => h3 i hi)
  have s2 : rankTo (m &&& (m - 1)).testBit (l + 1) = 0 := rankTo_same _ (Nat.zero_le _) (fun i _ hi => by
    rw [h4]
    rcases Nat.lt_or_ge i l with h5 | h5
    · rw [h3 i h5]; rfl
    · simp; intro _; omega)
  obtain ⟨d, rfl⟩ := Nat.le.dest (show l + 1 ≤ j from hlj)
  rw [rankTo_add, s2]
  rw [rankTo_add, rankTo, s1, if_pos h2] at hr
  have s3 : rankTo (fun i => (m &&& (m - 1)).testBit (l + 1 + i)) d = rankTo (fun i => m.testBit (l + 1 + i)) d := rankTo_congr fun i _ => by
    rw [h4]; simp; intro _; omega
  omega
theorem and_pred_lt (m : Nat) (h : m < 18446744073709551616) : m &&& (m - 1) < 18446744073709551616 := Nat.lt_of_le_of_lt Nat.and_le_left h
end Go.Proofs.YtmmhcfbnelggfaaDoor
