/- The mask's methods that only reckon. -/
import Derived.Test.YtmmhcfbnelggfaaDoorSet
namespace Go.Proofs.YtmmhcfbnelggfaaDoor
open Go.RowKit

/-- The mask of one number. -/
def bitN (i : Int) : Nat := if 0 ≤ i ∧ i < 64 then 2 ^ i.toNat else 0
theorem bitN_lt (i : Int) : bitN i < 18446744073709551616 := by
  unfold bitN
  split
  · exact Nat.pow_lt_pow_right (by omega) (show i.toNat < 64 by omega)
  · omega
theorem bitN_bit (i : Int) (j : Nat) : (bitN i).testBit j = (decide (0 ≤ i) && decide (i < 64) && decide (i = (j : Int))) := by
  unfold bitN
  split
  · rename_i h
    rw [Nat.testBit_two_pow]
    simp only [h.1, h.2, decide_true, Bool.true_and]
    congr 1
    apply propext
    omega
  · rename_i h
    simp only [Nat.zero_testBit]
    rcases Classical.em (0 ≤ i) with h1 | h1
    · simp [show ¬ i < 64 by omega]
    · simp [h1]
/-- What is in the first alone. -/
def andn (a b : Nat) : Nat := a &&& (18446744073709551615 - b)
theorem andn_bit {a b : Nat} (ha : a < 18446744073709551616) (hb : b < 18446744073709551616) (i : Nat) : (andn a b).testBit i = (a.testBit i && !b.testBit i) := by
  have h := Nat.testBit_two_pow_sub_succ (show b < 2 ^ 64 from hb) i
  have e : 2 ^ 64 - (b + 1) = 18446744073709551615 - b := by omega
  rw [e] at h
  rw [andn, Nat.testBit_and, h]
  by_cases hi : i < 64
  · simp [hi]
  · have : a.testBit i = false := Nat.testBit_lt_two_pow (Nat.lt_of_lt_of_le ha (show 2 ^ 64 ≤ 2 ^ i from Nat.pow_le_pow_right (by omega) (by omega)))
    simp [this]
theorem andn_lt {a : Nat} (b : Nat) (ha : a < 18446744073709551616) : andn a b < 18446744073709551616 := Nat.lt_of_le_of_lt Nat.and_le_left ha
theorem and_lt {a : Nat} (b : Nat) (ha : a < 18446744073709551616) : a &&& b < 18446744073709551616 := Nat.lt_of_le_of_lt Nat.and_le_left ha
theorem or_lt {a b : Nat} (ha : a < 18446744073709551616) (hb : b < 18446744073709551616) : a ||| b < 18446744073709551616 := Nat.or_lt_two_pow (n := 64) ha hb

theorem bit_any (i : Int) (w : World) :
    Calls Tryd.prog 37 #[.int .i64 i] w fun e w' => e = .returned (.int .u64 (bitN i : Nat)) ∧ w' = w := by
  by_cases h : i < 0
  · have hb : bitN i = 0 := by unfold bitN; rw [if_neg (by omega)]
    rw [hb]
    go_enter Tryd.func37, Tryd.ntmps37
    go_wp2
    go_ret
    exact ⟨rfl, rfl⟩
  · by_cases h2 : 64 ≤ i
    · have hb : bitN i = 0 := by unfold bitN; rw [if_neg (by omega)]
      rw [hb]
      go_enter Tryd.func37, Tryd.ntmps37
      go_wp2
      go_ret
      exact ⟨rfl, rfl⟩
    · have hb : bitN i = 2 ^ i.toNat := by unfold bitN; rw [if_pos (by omega)]
      have hl := bitN_lt i
      rw [hb] at hl ⊢
      have hw : IntKind.u64.wrap (2 ^ i.toNat) = ((2 ^ i.toNat : Nat) : Int) := by
        rw [IntKind.wrap_u64]
        have : ((2 ^ i.toNat : Nat) : Int) = (2 : Int) ^ i.toNat := by simp
        rw [← this]
        generalize 2 ^ i.toNat = q at *
        omega
      replace hw := Lib.hid hw
      have h' : i < 64 := by omega
      have h'' : 0 ≤ i := by omega
      clear hb hl
      go_enter Tryd.func37, Tryd.ntmps37
      go_wp2
      go_ret
      exact ⟨by simp [hw.out], rfl⟩

theorem and_any (a b : Nat) (ha : a < 18446744073709551616) (hb : b < 18446744073709551616) (w : World) :
    Calls Tryd.prog 32 #[.int .u64 a, .int .u64 b] w fun e w' => e = .returned (.int .u64 (a &&& b : Nat)) ∧ w' = w := by
  go_enter Tryd.func32, Tryd.ntmps32
  go_wp2
  go_ret
  exact ⟨by simp [bits_and_u64_nat _ _ ha hb], rfl⟩
theorem or_any (a b : Nat) (ha : a < 18446744073709551616) (hb : b < 18446744073709551616) (w : World) :
    Calls Tryd.prog 33 #[.int .u64 a, .int .u64 b] w fun e w' => e = .returned (.int .u64 (a ||| b : Nat)) ∧ w' = w := by
  go_enter Tryd.func33, Tryd.ntmps33
  go_wp2
  go_ret
  exact ⟨by simp [bits_or_u64_nat _ _ ha hb], rfl⟩
theorem less_any (a b : Nat) (ha : a < 18446744073709551616) (hb : b < 18446744073709551616) (w : World) :
    Calls Tryd.prog 31 #[.int .u64 a, .int .u64 b] w fun e w' => e = .returned (.int .u64 (andn a b : Nat)) ∧ w' = w := by
  go_enter Tryd.func31, Tryd.ntmps31
  go_wp2
  go_ret
  exact ⟨by simp [u64_andNot_nat _ _ ha hb, andn], rfl⟩
theorem has_any (a : Nat) (i : Int) (ha : a < 18446744073709551616) (w : World) :
    Calls Tryd.prog 20 #[.int .u64 a, .int .i64 i] w fun e w' => e = .returned (.bool (decide (a &&& bitN i ≠ 0))) ∧ w' = w := by
  have hl := bitN_lt i
  go_enter Tryd.func20, Tryd.ntmps20
  go_wp2_with (go_at_call 37; refine (bit_any _ _).mono ?_; rintro e w' ⟨rfl, rfl⟩)
  go_ret
  refine ⟨?_, rfl⟩
  simp only [Array.getD_eq_getD_getElem?, bits_and_u64_nat _ _ ha hl]
  by_cases h : a &&& bitN i = 0
  · simp [h]
  · simp [h]
theorem in_any (a b : Nat) (ha : a < 18446744073709551616) (hb : b < 18446744073709551616) (w : World) :
    Calls Tryd.prog 35 #[.int .u64 a, .int .u64 b] w fun e w' => e = .returned (.bool (decide (andn a b = 0))) ∧ w' = w := by
  go_enter Tryd.func35, Tryd.ntmps35
  go_wp2
  go_ret
  refine ⟨?_, rfl⟩
  simp only [Array.getD_eq_getD_getElem?, u64_andNot_nat _ _ ha hb]
  by_cases h : andn a b = 0
  · simp [h, show a &&& (18446744073709551615 - b) = 0 from h]
  · simp [h, show ¬ a &&& (18446744073709551615 - b) = 0 from h]
theorem meets_any (a b : Nat) (ha : a < 18446744073709551616) (hb : b < 18446744073709551616) (w : World) :
    Calls Tryd.prog 34 #[.int .u64 a, .int .u64 b] w fun e w' => e = .returned (.bool (decide (a &&& b ≠ 0))) ∧ w' = w := by
  go_enter Tryd.func34, Tryd.ntmps34
  go_wp2
  go_ret
  refine ⟨?_, rfl⟩
  simp only [Array.getD_eq_getD_getElem?, bits_and_u64_nat _ _ ha hb]
  by_cases h : a &&& b = 0
  · simp [h]
  · simp [h]
theorem has_bit {a : Nat} (i : Nat) (hi : i < 64) : decide (a &&& bitN i ≠ 0) = a.testBit i := by
  have hx : ∀ j, (a &&& bitN i).testBit j = (a.testBit j && decide (i = j)) := fun j => by
    rw [Nat.testBit_and, bitN_bit, decide_eq_true (show (0 : Int) ≤ (i : Int) by omega), decide_eq_true (show (i : Int) < 64 by omega), Bool.true_and, Bool.true_and]
    congr 1
    exact decide_eq_decide.2 (by omega)
  cases hb : a.testBit i
  · have : a &&& bitN i = 0 := by
      apply Nat.eq_of_testBit_eq; intro j
      rw [hx]
      by_cases e : i = j
      · subst e; simp [hb]
      · simp [e]
    simp [this]
  · have : a &&& bitN i ≠ 0 := fun e => by
      have := hx i
      rw [e, hb] at this
      simp at this
    simp [this]
end Go.Proofs.YtmmhcfbnelggfaaDoor
