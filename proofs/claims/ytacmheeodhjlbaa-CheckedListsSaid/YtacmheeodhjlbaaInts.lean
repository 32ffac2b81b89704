/- The checked numbers: what each function tells. -/
import Derived.Test.YtacmheeodhjlbaaKit
import Derived.IntWalk
import Derived.Lib.Mul64
import Derived.Laws.Bits64b
namespace Go.Proofs.Ytacmheeodhjlbaa
open Go.RowKit

def tup (x y : Int) : Value := .tuple #[.int .i64 x, .int .i64 y]
def InR (a : Int) : Prop := -9223372036854775808 ≤ a ∧ a ≤ 9223372036854775807
instance (a : Int) : Decidable (InR a) := inferInstanceAs (Decidable (_ ∧ _))
/-- The number, or the error 30. -/
def told (n : Int) : Value := if InR n then tup n 0 else tup 0 30
theorem told_in {n : Int} (h : InR n) : told n = tup n 0 := if_pos h
theorem told_out {n : Int} (h : ¬ InR n) : told n = tup 0 30 := if_neg h
theorem told_of {n x y : Int} (h : (-9223372036854775808 ≤ n ∧ n ≤ 9223372036854775807 ∧ x = n ∧ y = 0) ∨ ((n < -9223372036854775808 ∨ 9223372036854775807 < n) ∧ x = 0 ∧ y = 30)) : .tuple #[.int .i64 x, .int .i64 y] = told n := by
  rcases h with ⟨h1, h2, rfl, rfl⟩ | ⟨h, rfl, rfl⟩
  · exact (told_in ⟨h1, h2⟩).symm
  · exact (told_out (fun ⟨h1, h2⟩ => by omega)).symm

theorem told_tup (n : Int) : ∃ x y, told n = .tuple #[.int .i64 x, .int .i64 y] := by
  unfold told tup
  split
  · exact ⟨_, _, rfl⟩
  · exact ⟨_, _, rfl⟩
theorem add_any (a b : Int) (ha : InR a) (hb : InR b) (w : World) : Calls Try.prog 11 #[.int .i64 a, .int .i64 b] w fun e w' => e = .returned (told (a + b)) ∧ w' = w := by
  unfold InR at ha hb
  go_enter Try.func11, Try.ntmps11
  go_wp2
  all_goals
    go_ret2
    refine ⟨congrArg Ending.returned (told_of ?_), rfl⟩
    simp at *
    unfold wrap64 at *
    omega
theorem sub_any (a b : Int) (ha : InR a) (hb : InR b) (w : World) : Calls Try.prog 13 #[.int .i64 a, .int .i64 b] w fun e w' => e = .returned (told (a - b)) ∧ w' = w := by
  unfold InR at ha hb
  go_enter Try.func13, Try.ntmps13
  go_wp2
  all_goals
    go_ret2
    refine ⟨congrArg Ending.returned (told_of ?_), rfl⟩
    simp at *
    unfold wrap64 at *
    omega
theorem size_any (a : Int) (ha : InR a) (w : World) : Calls Try.prog 35 #[.int .i64 a] w fun e w' => e = .returned (.int .u64 (a.natAbs : Nat)) ∧ w' = w := by
  unfold InR at ha
  go_enter Try.func35, Try.ntmps35
  go_wp2
  all_goals
    go_ret
    refine ⟨congrArg Ending.returned (congrArg (Value.int .u64) ?_), rfl⟩
    first
      | omega
      | (rw [IntKind.wrap_u64, IntKind.wrap_u64]; omega)
theorem signed_any (n : Nat) (hn : n < 18446744073709551616) (below : Bool) (w : World) : Calls Try.prog 36 #[.int .u64 n, .bool below] w fun e w' => e = .returned (told (if below then - (n : Int) else n)) ∧ w' = w := by
  go_enter Try.func36, Try.ntmps36
  cases below
  all_goals
    go_wp2
  all_goals
    go_ret2
    refine ⟨congrArg Ending.returned (told_of ?_), rfl⟩
    simp [IntKind.wrap_u64, wrap64]
    omega
namespace Mul64
theorem maskN (a : Nat) (ha : a < 18446744073709551616) : bits .and .u64 (a : Int) 4294967295 = ((a % 4294967296 : Nat) : Int) := by
  have h := bits_and_u64_nat a 4294967295 ha (by omega)
  have e : a &&& 4294967295 = a % 4294967296 := Nat.and_two_pow_sub_one_eq_mod a 32
  rw [e] at h
  exact h
theorem divN (a : Nat) : (a : Int) / 4294967296 = ((a / 4294967296 : Nat) : Int) := by omega
theorem mulN (a b : Nat) : (a : Int) * (b : Int) = ((a * b : Nat) : Int) := (Int.natCast_mul a b).symm
theorem addN (a b : Nat) : (a : Int) + (b : Int) = ((a + b : Nat) : Int) := (Int.natCast_add a b).symm
theorem wrapN (a : Nat) (ha : a < 18446744073709551616) : IntKind.u64.wrap (a : Int) = (a : Int) := by rw [IntKind.wrap_u64]; omega
theorem wrapM (a : Nat) : IntKind.u64.wrap (a : Int) = ((a % 18446744073709551616 : Nat) : Int) := by rw [IntKind.wrap_u64]; omega
end Mul64
set_option maxHeartbeats 1000000 in
theorem mul64_any (x y : Nat) (hx : x < 18446744073709551616) (hy : y < 18446744073709551616) (w : World) :
    Calls Try.prog 34 #[.int .u64 x, .int .u64 y] w fun e w' => e = .returned (.tuple #[.int .u64 ((x * y / 18446744073709551616 : Nat) : Int), .int .u64 ((x * y % 18446744073709551616 : Nat) : Int)]) ∧ w' = w := by
  obtain ⟨bd, bt, bw, hhi⟩ := Lib.mul64_hi x y hx hy
  have ba := Lib.half_mul_le (a := x / 4294967296) (b := y / 4294967296) (by omega) (by omega)
  have bb := Lib.half_mul_le (a := x / 4294967296) (b := y % 4294967296) (by omega) (by omega)
  have bc := Lib.half_mul_le (a := x % 4294967296) (b := y / 4294967296) (by omega) (by omega)
  have ba' : x / 4294967296 * (y / 4294967296) < 18446744073709551616 := by omega
  have bb' : x / 4294967296 * (y % 4294967296) < 18446744073709551616 := by omega
  have bc' : x % 4294967296 * (y / 4294967296) < 18446744073709551616 := by omega
  have bh1 : x / 4294967296 * (y / 4294967296) + (x / 4294967296 * (y % 4294967296) + x % 4294967296 * (y % 4294967296) / 4294967296) / 4294967296 < 18446744073709551616 := by omega
  have bh : x / 4294967296 * (y / 4294967296) + (x / 4294967296 * (y % 4294967296) + x % 4294967296 * (y % 4294967296) / 4294967296) / 4294967296 + ((x / 4294967296 * (y % 4294967296) + x % 4294967296 * (y % 4294967296) / 4294967296) % 4294967296 + x % 4294967296 * (y / 4294967296)) / 4294967296 < 18446744073709551616 := by omega
  go_enter Try.func34, Try.ntmps34
  go_wp2
  simp only [Mul64.maskN x hx, Mul64.maskN y hy, Mul64.divN, Mul64.mulN, Mul64.addN, Mul64.wrapN _ bd, Mul64.wrapN _ bb', Mul64.wrapN _ bt, Mul64.maskN _ bt, Mul64.wrapN _ bc', Mul64.wrapN _ bw, Mul64.wrapN _ ba', Mul64.wrapN _ bh1, Mul64.wrapN _ bh, Mul64.wrapM (x * y)]
  rw [hhi]
  go_ret2
  exact ⟨rfl, rfl⟩
theorem natAbs_lt {a : Int} (ha : InR a) : a.natAbs ≤ 9223372036854775808 := by unfold InR at ha; omega
theorem mul_split (a b : Int) : a * b = if (decide (a < 0) != decide (b < 0)) = true then -((a.natAbs * b.natAbs : Nat) : Int) else ((a.natAbs * b.natAbs : Nat) : Int) := by
  have h : ((a.natAbs * b.natAbs : Nat) : Int) = (a.natAbs : Int) * (b.natAbs : Int) := Int.natCast_mul _ _
  rw [h]
  by_cases ha : a < 0 <;> by_cases hb : b < 0
  · rw [show (a.natAbs : Int) = -a by omega, show (b.natAbs : Int) = -b by omega, decide_eq_true ha, decide_eq_true hb]; exact (Int.neg_mul_neg a b).symm
  · rw [show (a.natAbs : Int) = -a by omega, show (b.natAbs : Int) = b by omega, decide_eq_true ha, decide_eq_false hb]; show a * b = -(-a * b); rw [Int.neg_mul, Int.neg_neg]
  · rw [show (a.natAbs : Int) = a by omega, show (b.natAbs : Int) = -b by omega, decide_eq_false ha, decide_eq_true hb]; show a * b = -(a * -b); rw [Int.mul_neg, Int.neg_neg]
  · rw [show (a.natAbs : Int) = a by omega, show (b.natAbs : Int) = b by omega, decide_eq_false ha, decide_eq_false hb]; rfl
theorem mul_any (a b : Int) (ha : InR a) (hb : InR b) (w : World) : Calls Try.prog 15 #[.int .i64 a, .int .i64 b] w fun e w' => e = .returned (told (a * b)) ∧ w' = w := by
  have hA := size_any a ha w
  have hB := size_any b hb w
  have na := natAbs_lt ha
  have nb := natAbs_lt hb
  have hM := mul64_any a.natAbs b.natAbs (by omega) (by omega) w
  have hm := mul_split a b
  generalize a.natAbs * b.natAbs = n at *
  obtain ⟨hi, hhi⟩ : ∃ h, h = n / 18446744073709551616 := ⟨_, rfl⟩
  obtain ⟨lo, hlo⟩ : ∃ h, h = n % 18446744073709551616 := ⟨_, rfl⟩
  rw [← hhi, ← hlo] at hM
  obtain ⟨bl, hbl⟩ : ∃ x, (!decide (a < 0) == decide (b < 0)) = x := ⟨_, rfl⟩
  have hm' : a * b = if bl = true then -(n : Int) else n := by rw [← hbl]; exact hm
  have hS := fun x => signed_any lo (by omega) x w
  have h0 : hi = 0 → n = lo := by omega
  have h1 : 0 < hi → 18446744073709551616 ≤ n := by omega
  clear hhi hlo hm na nb ha hb
  by_cases c0 : 0 < hi
  · have hout : told (a * b) = tup 0 30 := told_out (fun h => by
      unfold InR at h
      have := h1 c0
      rw [hm'] at h
      cases bl
      · simp at h; omega
      · simp at h; omega)
    go_enter Try.func15, Try.ntmps15
    go_wp2_with fail
    refine hA.mono ?_
    rintro e w1 ⟨rfl, rfl⟩
    go_wp2_with fail
    refine hB.mono ?_
    rintro e w1 ⟨rfl, rfl⟩
    go_wp2_with fail
    refine hM.mono ?_
    rintro e w1 ⟨rfl, rfl⟩
    go_wp2_with fail
    go_ret2
    exact ⟨congrArg Ending.returned hout.symm, rfl⟩
  · obtain rfl := h0 (by omega)
    have hab : a * b = if (if 0 < n then bl else false) = true then -(n : Int) else n := by
      rw [hm']
      by_cases hp : 0 < n
      · rw [if_pos hp]
      · rw [if_neg hp]
        have : n = 0 := by omega
        subst this
        simp
    rw [hab]
    by_cases c1 : 0 < n
    · replace hS := hS bl
      rw [if_pos c1]
      obtain ⟨x, y, ht⟩ := told_tup (if bl = true then -(n : Int) else n)
      rw [ht] at hS ⊢
      clear ht hab hm' h1
      have hbl' : (!decide (a < 0) == decide (b < 0)) = bl := hbl
      clear hbl
      go_enter Try.func15, Try.ntmps15
      go_wp2_with fail
      refine hA.mono ?_
      rintro e w1 ⟨rfl, rfl⟩
      go_wp2_with fail
      refine hB.mono ?_
      rintro e w1 ⟨rfl, rfl⟩
      go_wp2_with fail
      refine hM.mono ?_
      rintro e w1 ⟨rfl, rfl⟩
      go_wp2_with fail
      refine hS.mono ?_
      rintro e w1 ⟨rfl, rfl⟩
      go_wp2_with fail
      go_ret2
      exact ⟨rfl, rfl⟩
    · replace hS := hS false
      rw [if_neg c1]
      simp only [Bool.false_eq_true, if_false] at hS ⊢
      obtain ⟨x, y, ht⟩ := told_tup (n : Int)
      rw [ht] at hS ⊢
      clear ht hab hm' h1
      go_enter Try.func15, Try.ntmps15
      go_wp2_with fail
      refine hA.mono ?_
      rintro e w1 ⟨rfl, rfl⟩
      go_wp2_with fail
      refine hB.mono ?_
      rintro e w1 ⟨rfl, rfl⟩
      go_wp2_with fail
      refine hM.mono ?_
      rintro e w1 ⟨rfl, rfl⟩
      go_wp2_with fail
      refine hS.mono ?_
      rintro e w1 ⟨rfl, rfl⟩
      go_wp2_with fail
      go_ret2
      exact ⟨rfl, rfl⟩
theorem neg_any (a : Int) (ha : InR a) (w : World) : Calls Try.prog 17 #[.int .i64 a] w fun e w' => e = .returned (told (-a)) ∧ w' = w := by
  have hS := sub_any 0 a (by unfold InR; omega) ha w
  rw [show (0 : Int) - a = -a by omega] at hS
  obtain ⟨x, y, ht⟩ := told_tup (-a)
  rw [ht] at hS ⊢
  go_enter Try.func17, Try.ntmps17
  go_wp2_with fail
  refine hS.mono ?_
  rintro e w1 ⟨rfl, rfl⟩
  go_wp2_with fail
  go_ret2
  exact ⟨rfl, rfl⟩
/-- The quotient, or the error. -/
def toldDiv (a b : Int) : Value := if b = 0 then tup 0 31 else told (a.tdiv b)
def toldRem (a b : Int) : Value := if b = 0 then tup 0 31 else tup (a.tmod b) 0
theorem inR_tdiv {a b : Int} (ha : InR a) (h0 : b ≠ 0) (h1 : b ≠ -1) : InR (a.tdiv b) := by
  have hn : (a.tdiv b).natAbs = a.natAbs / b.natAbs := Int.natAbs_tdiv a b
  have hl := natAbs_lt ha
  by_cases hb : b = 1
  · subst hb
    rw [Int.tdiv_one]; exact ha
  · have h2 : a.natAbs / b.natAbs ≤ a.natAbs / 2 := Nat.div_le_div_left (by omega) (by omega)
    unfold InR
    omega
theorem inR_tmod {a b : Int} (hb : InR b) (h0 : b ≠ 0) : InR (a.tmod b) := by
  have hn : (a.tmod b).natAbs = a.natAbs % b.natAbs := Int.natAbs_tmod a b
  have hl := natAbs_lt hb
  have h2 : a.natAbs % b.natAbs < b.natAbs := Nat.mod_lt _ (by omega)
  unfold InR
  omega
theorem div_any (a b : Int) (ha : InR a) (hb : InR b) (w : World) : Calls Try.prog 19 #[.int .i64 a, .int .i64 b] w fun e w' => e = .returned (toldDiv a b) ∧ w' = w := by
  by_cases h0 : b = 0
  · subst h0
    go_enter Try.func19, Try.ntmps19
    go_wp2_with fail
    go_ret2
    exact ⟨rfl, rfl⟩
  unfold toldDiv
  rw [if_neg h0]
  by_cases h1 : b = -1
  · subst h1
    have hN := neg_any a ha w
    rw [show a.tdiv (-1) = -a by rw [Int.tdiv_neg, Int.tdiv_one]]
    obtain ⟨x, y, ht⟩ := told_tup (-a)
    rw [ht] at hN ⊢
    go_enter Try.func19, Try.ntmps19
    go_wp2_with fail
    refine hN.mono ?_
    rintro e w1 ⟨rfl, rfl⟩
    go_wp2_with fail
    go_ret2
    exact ⟨rfl, rfl⟩
  have t0 : (b == 0) = false := by rw [beq_eq_false_iff_ne]; exact h0
  have t1 : (b == -1) = false := by rw [beq_eq_false_iff_ne]; exact h1
  go_enter Try.func19, Try.ntmps19
  have hi := inR_tdiv ha h0 h1
  have hw : wrap64 (a.tdiv b) = a.tdiv b := IntWalk.wrap64_in _ hi
  go_wp2_with fail
  go_ret2
  rw [told_in hi, hw]
  exact ⟨rfl, rfl⟩
theorem rem_any (a b : Int) (hb : InR b) (w : World) : Calls Try.prog 21 #[.int .i64 a, .int .i64 b] w fun e w' => e = .returned (toldRem a b) ∧ w' = w := by
  unfold toldRem
  by_cases h0 : b = 0
  · subst h0
    go_enter Try.func21, Try.ntmps21
    go_wp2_with fail
    go_ret2
    exact ⟨rfl, rfl⟩
  rw [if_neg h0]
  by_cases h1 : b = -1
  · subst h1
    rw [show a.tmod (-1) = 0 by rw [Int.tmod_neg, Int.tmod_one]]
    go_enter Try.func21, Try.ntmps21
    go_wp2_with fail
    go_ret2
    exact ⟨rfl, rfl⟩
  have t0 : (b == 0) = false := by rw [beq_eq_false_iff_ne]; exact h0
  have t1 : (b == -1) = false := by rw [beq_eq_false_iff_ne]; exact h1
  have hw : wrap64 (a.tmod b) = a.tmod b := IntWalk.wrap64_in _ (inR_tmod hb h0)
  go_enter Try.func21, Try.ntmps21
  go_wp2_with fail
  go_ret2
  exact ⟨rfl, rfl⟩
/-- Euclid's remainder, or the error. -/
def toldEuclid (a n : Int) : Value := if n < 1 then tup 0 2 else tup (a % n) 0
theorem emod_split (a n : Int) (hn : 0 < n) : a % n = if a.tmod n < 0 then a.tmod n + n else a.tmod n := by
  have hb1 := Int.lt_tmod_of_pos a hn
  have hb2 := Int.tmod_lt_of_pos a hn
  have key : a % n = a.tmod n % n := by
    conv => lhs; rw [← Int.tmod_add_mul_tdiv a n]
    exact Int.add_mul_emod_self_left _ _ _
  rw [key]
  generalize a.tmod n = r at *
  by_cases h : r < 0
  · rw [if_pos h, ← Int.add_emod_right r n]
    exact Int.emod_eq_of_lt (by omega) (by omega)
  · rw [if_neg h]
    exact Int.emod_eq_of_lt (by omega) (by omega)
theorem euclid_any (a n : Int) (hn : InR n) (w : World) : Calls Try.prog 9 #[.int .i64 a, .int .i64 n] w fun e w' => e = .returned (toldEuclid a n) ∧ w' = w := by
  unfold toldEuclid
  by_cases h0 : n < 1
  · rw [if_pos h0]
    have t0 : decide (n < 1) = true := decide_eq_true h0
    go_enter Try.func9, Try.ntmps9
    go_wp2_with fail
    go_ret2
    exact ⟨rfl, rfl⟩
  rw [if_neg h0]
  have t0 : decide (n < 1) = false := decide_eq_false h0
  have hr := inR_tmod (a := a) hn (show n ≠ 0 by omega)
  have hw : wrap64 (a.tmod n) = a.tmod n := IntWalk.wrap64_in _ hr
  have he := emod_split a n (by omega)
  unfold InR at hn hr
  have hz : (n == 0) = false := by rw [beq_eq_false_iff_ne]; omega
  have hnn : ¬ n = 0 := by omega
  by_cases h1 : a.tmod n < 0
  · have t1 : decide (a.tmod n < 0) = true := decide_eq_true h1
    have hw2 : wrap64 (a.tmod n + n) = a.tmod n + n := IntWalk.wrap64_in _ (by omega)
    rw [if_pos h1] at he
    rw [he]
    replace he := Lib.hid he
    go_enter Try.func9, Try.ntmps9
    go_wp2_with fail
    go_ret2
    exact ⟨rfl, rfl⟩
  · have t1 : decide (a.tmod n < 0) = false := decide_eq_false h1
    rw [if_neg h1] at he
    rw [he]
    replace he := Lib.hid he
    go_enter Try.func9, Try.ntmps9
    go_wp2_with fail
    go_ret2
    exact ⟨rfl, rfl⟩
theorem tdiv_split (a b : Int) : a.tdiv b = if (decide (a < 0) == decide (b < 0)) = true then ((a.natAbs / b.natAbs : Nat) : Int) else -((a.natAbs / b.natAbs : Nat) : Int) := by
  have key : ((a.natAbs : Nat) : Int).tdiv (b.natAbs : Nat) = ((a.natAbs / b.natAbs : Nat) : Int) := rfl
  rw [← key]
  by_cases ha : a < 0 <;> by_cases hb : b < 0
  · rw [show (a.natAbs : Int) = -a by omega, show (b.natAbs : Int) = -b by omega, decide_eq_true ha, decide_eq_true hb]; show _ = (-a).tdiv (-b); rw [Int.neg_tdiv, Int.tdiv_neg, Int.neg_neg]
  · rw [show (a.natAbs : Int) = -a by omega, show (b.natAbs : Int) = b by omega, decide_eq_true ha, decide_eq_false hb]; show _ = -((-a).tdiv b); rw [Int.neg_tdiv, Int.neg_neg]
  · rw [show (a.natAbs : Int) = a by omega, show (b.natAbs : Int) = -b by omega, decide_eq_false ha, decide_eq_true hb]; show _ = -(a.tdiv (-b)); rw [Int.tdiv_neg, Int.neg_neg]
  · rw [show (a.natAbs : Int) = a by omega, show (b.natAbs : Int) = b by omega, decide_eq_false ha, decide_eq_false hb]; rfl
theorem tmod_split (a b : Int) : a.tmod b = if a < 0 then -((a.natAbs % b.natAbs : Nat) : Int) else ((a.natAbs % b.natAbs : Nat) : Int) := by
  have key : ((a.natAbs : Nat) : Int).tmod (b.natAbs : Nat) = ((a.natAbs % b.natAbs : Nat) : Int) := rfl
  have hbb : a.tmod (b.natAbs : Int) = a.tmod b := by
    rcases Int.natAbs_eq b with h | h
    · rw [← h]
    · conv => rhs; rw [h, Int.tmod_neg]
  rw [← key, ← hbb]
  by_cases ha : a < 0
  · rw [if_pos ha, show (a.natAbs : Int) = -a by omega, Int.neg_tmod, Int.neg_neg]
  · rw [if_neg ha, show (a.natAbs : Int) = a by omega]
theorem far_any (a : Int) (ha : InR a) (w : World) : Calls Try.prog 38 #[.int .i64 a] w fun e w' => e = .returned (.int .u64 (a.natAbs : Nat)) ∧ w' = w := by
  unfold InR at ha
  go_enter Try.func38, Try.ntmps38
  go_wp2
  all_goals
    go_ret
    refine ⟨congrArg Ending.returned (congrArg (Value.int .u64) ?_), rfl⟩
    first
      | omega
      | (simp [IntKind.wrap_u64, wrap64]; omega)
theorem refDiv_any (a b : Int) (ha : InR a) (hb : InR b) (w : World) : Calls Try.prog 20 #[.int .i64 a, .int .i64 b] w fun e w' => e = .returned (toldDiv a b) ∧ w' = w := by
  have hA := far_any a ha w
  have hB := far_any b hb w
  unfold toldDiv
  by_cases h0 : b = 0
  · subst h0
    go_enter Try.func20, Try.ntmps20
    go_wp2_with fail
    go_ret2
    exact ⟨rfl, rfl⟩
  rw [if_neg h0]
  have t0 : (b == 0) = false := by rw [beq_eq_false_iff_ne]; exact h0
  have hs := tdiv_split a b
  have hq : a.natAbs / b.natAbs ≤ 9223372036854775808 := Nat.le_trans (Nat.div_le_self _ _) (natAbs_lt ha)
  have hb0 : ((b.natAbs : Int) == 0) = false := by rw [beq_eq_false_iff_ne]; omega
  have hwr : IntKind.u64.wrap ((a.natAbs : Int) / (b.natAbs : Int)) = ((a.natAbs / b.natAbs : Nat) : Int) := by
    rw [show (a.natAbs : Int) / (b.natAbs : Int) = ((a.natAbs / b.natAbs : Nat) : Int) from rfl, IntKind.wrap_u64]
    generalize a.natAbs / b.natAbs = q at *
    omega
  obtain ⟨bb, hbb⟩ : ∃ x, (decide (a < 0) == decide (b < 0)) = x := ⟨_, rfl⟩
  rw [hbb] at hs
  rw [hs]
  clear hs
  generalize a.natAbs / b.natAbs = q at *
  go_enter Try.func20, Try.ntmps20
  go_wp2_with fail
  refine hA.mono ?_
  rintro e w1 ⟨rfl, rfl⟩
  go_wp2_with fail
  refine hB.mono ?_
  rintro e w1 ⟨rfl, rfl⟩
  cases bb
  all_goals
    go_wp2_with fail
  all_goals
    go_ret2
    refine ⟨congrArg Ending.returned (told_of ?_), rfl⟩
    simp [IntKind.wrap_u64, wrap64]
    omega
theorem refRem_any (a b : Int) (ha : InR a) (hb : InR b) (w : World) : Calls Try.prog 22 #[.int .i64 a, .int .i64 b] w fun e w' => e = .returned (toldRem a b) ∧ w' = w := by
  have hA := far_any a ha w
  have hB := far_any b hb w
  unfold toldRem
  by_cases h0 : b = 0
  · subst h0
    go_enter Try.func22, Try.ntmps22
    go_wp2_with fail
    go_ret2
    exact ⟨rfl, rfl⟩
  rw [if_neg h0]
  have t0 : (b == 0) = false := by rw [beq_eq_false_iff_ne]; exact h0
  have hq : a.natAbs % b.natAbs < 9223372036854775808 := by
    have := natAbs_lt hb
    have h2 : a.natAbs % b.natAbs < b.natAbs := Nat.mod_lt _ (by omega)
    omega
  have hs := tmod_split a b
  have hb0 : ((b.natAbs : Int) == 0) = false := by rw [beq_eq_false_iff_ne]; omega
  have hqi : (a.natAbs : Int) % (b.natAbs : Int) = ((a.natAbs % b.natAbs : Nat) : Int) := rfl
  rw [hs]
  clear hs
  generalize a.natAbs % b.natAbs = q at *
  go_enter Try.func22, Try.ntmps22
  go_wp2_with fail
  refine hA.mono ?_
  rintro e w1 ⟨rfl, rfl⟩
  go_wp2_with fail
  refine hB.mono ?_
  rintro e w1 ⟨rfl, rfl⟩
  have e1 : wrap64 (IntKind.u64.wrap (-(q : Int))) = -(q : Int) := by rw [IntKind.wrap_u64]; unfold wrap64; omega
  have e2 : wrap64 (q : Int) = (q : Int) := by unfold wrap64; omega
  go_wp2_with fail
  all_goals
    go_ret2
    exact ⟨rfl, rfl⟩
end Go.Proofs.Ytacmheeodhjlbaa
