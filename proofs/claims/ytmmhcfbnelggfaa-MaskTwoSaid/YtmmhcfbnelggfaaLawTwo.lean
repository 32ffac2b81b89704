/- The walk of MaskTwo. -/
import Derived.Test.YtmmhcfbnelggfaaMask
import Derived.Test.YtmmhcfbnelggfaaOf
import Derived.Test.YtmmhcfbnelggfaaKit
namespace Go.Proofs.Ytmmhcfbnelggfaa
open Go.RowKit

def allTo (p : Nat → Bool) (k : Nat) : Bool := (List.range k).all p
def anyTo (p : Nat → Bool) (k : Nat) : Bool := (List.range k).any p
theorem allTo_succ (p : Nat → Bool) (k : Nat) : allTo p (k + 1) = (allTo p k && p k) := by simp [allTo, List.range_succ]
theorem anyTo_succ (p : Nat → Bool) (k : Nat) : anyTo p (k + 1) = (anyTo p k || p k) := by simp [anyTo, List.range_succ]

theorem in_all {a b : Nat} (ha : a < 18446744073709551616) (hb : b < 18446744073709551616) : decide (andn a b = 0) = allTo (fun j => !a.testBit j || b.testBit j) 64 := by
  rw [Bool.eq_iff_iff]
  simp only [decide_eq_true_eq, allTo, List.all_eq_true, List.mem_range]
  constructor
  · intro h j _
    have := andn_bit ha hb j
    rw [h, Nat.zero_testBit] at this
    cases hx : a.testBit j <;> cases hy : b.testBit j <;> simp [hx, hy] at this ⊢
  · intro h
    apply Nat.eq_of_testBit_eq
    intro j
    rw [andn_bit ha hb, Nat.zero_testBit]
    by_cases hj : j < 64
    · have := h j hj
      cases hx : a.testBit j <;> cases hy : b.testBit j <;> simp [hx, hy] at this ⊢
    · rw [Nat.testBit_lt_two_pow (Nat.lt_of_lt_of_le ha (show 2 ^ 64 ≤ 2 ^ j from Nat.pow_le_pow_right (by omega) (by omega)))]; rfl
theorem meets_any_bit {a b : Nat} (ha : a < 18446744073709551616) : decide (a &&& b ≠ 0) = anyTo (fun j => a.testBit j && b.testBit j) 64 := by
  rw [Bool.eq_iff_iff]
  simp only [decide_eq_true_eq, anyTo, List.any_eq_true, List.mem_range]
  constructor
  · intro h
    obtain ⟨j, hj⟩ := Nat.exists_testBit_of_ne_zero h
    rw [Nat.testBit_and] at hj
    refine ⟨j, ?_, hj⟩
    rcases Nat.lt_or_ge j 64 with h | h
    · exact h
    · rw [Nat.testBit_lt_two_pow (Nat.lt_of_lt_of_le ha (show 2 ^ 64 ≤ 2 ^ j from Nat.pow_le_pow_right (by omega) h))] at hj
      cases hj
  · rintro ⟨j, _, hj⟩ h
    rw [← Nat.testBit_and, h, Nat.zero_testBit] at hj
    cases hj

set_option maxRecDepth 100000 in
set_option maxHeartbeats 2000000 in
theorem maskTwo_any (a b : Nat) (ha : a < 18446744073709551616) (hb : b < 18446744073709551616) (w : World) :
    Calls Try.prog 4 #[.int .u64 a, .int .u64 b] w fun e w' => e = .returned (.bool true) ∧ Below w.heap.size w w' := by
  go_enter Try.func4, Try.ntmps4
  go_wp2_with fail
  refine (of_any a w ha).mono ?_
  rintro e w1 ⟨rfl, hB1⟩
  have hst := run_cells_fresh w1 a.testBit
  go_wp2_with fail
  clear hst
  refine (of_any b _ hb).mono ?_
  rintro e w2 ⟨rfl, hB2⟩
  have bA : Blk w2 w1.heap.size (setC a.testBit) 24 := (Blk.new w1 _ _).below hB2 (by simp)
  have hst := run_cells_fresh w2 b.testBit
  go_wp2_with (first | (go_at_call 10; refine (and_any _ _ ha hb _).mono ?_; rintro e w' ⟨rfl, rfl⟩) | (go_at_call 11; refine (or_any _ _ ha hb _).mono ?_; rintro e w' ⟨rfl, rfl⟩) | (go_at_call 12; refine (less_any _ _ ha hb _).mono ?_; rintro e w' ⟨rfl, rfl⟩))
  clear hst
  have bA' := bA.alloc (.cells (setC b.testBit) 24)
  have bB := Blk.new w2 (setC b.testBit) 24
  have hs1 := hB1.size
  have hs2 := hB2.size
  have hB : Below w.heap.size w (w2.alloc (.cells (setC b.testBit) 24)) := ((hB1.alloc hB1.size _).trans (hB2.mono (by simp; omega))).alloc (by simp at hs2; omega) _
  obtain ⟨g1, hg1⟩ : ∃ g1, w1.heap.size = g1 := ⟨_, rfl⟩
  obtain ⟨g2, hg2⟩ : ∃ g2, w2.heap.size = g2 := ⟨_, rfl⟩
  rw [hg1, hg2]
  rw [hg1] at bA'
  rw [hg2] at bB
  generalize w2.alloc (.cells (setC b.testBit) 24) = W0 at *
  clear hg1 hg2
  go_loopw [12, 13, 14] (fun vi vm vk wr => ∃ k : Nat, k ≤ 64 ∧ vk = .int .i64 k ∧ vi = .bool (allTo (fun j => !a.testBit j || b.testBit j) k) ∧ vm = .bool (anyTo (fun j => a.testBit j && b.testBit j) k) ∧ Blk wr g1 (setC a.testBit) 24 ∧ Blk wr g2 (setC b.testBit) 24 ∧ Below w.heap.size w wr)
    (fun _ _ k _ => 64 - (intOf k).toNat)
  case atStart => exact ⟨0, by omega, rfl, rfl, rfl, bA', bB, hB⟩
  case round =>
    obtain ⟨k, hk, rfl, rfl, rfl, b1, b2, hBr⟩ := hrel
    by_cases hlt : k < 64
    · have c1 := b1.cell (setC_get a.testBit k hlt)
      have c2 := b2.cell (setC_get b.testBit k hlt)
      have e1 := has_bit (a := a &&& b) k hlt
      have e2 := has_bit (a := a ||| b) k hlt
      have e3 := has_bit (a := andn a b) k hlt
      rw [Nat.testBit_and] at e1
      rw [Nat.testBit_or] at e2
      rw [andn_bit ha hb] at e3
      have HI := Lib.hid (allTo_succ (fun j => !a.testBit j || b.testBit j) k)
      have HM := Lib.hid (anyTo_succ (fun j => a.testBit j && b.testBit j) k)
      have hA : ∀ w, Calls Try.prog 13 #[.int .u64 (a &&& b : Nat), .int .i64 k] w fun e w' => e = .returned (.bool (a.testBit k && b.testBit k)) ∧ w' = w := fun w => by
        rw [← e1]; exact has_any _ _ (and_lt b ha) w
      have hO : ∀ w, Calls Try.prog 13 #[.int .u64 (a ||| b : Nat), .int .i64 k] w fun e w' => e = .returned (.bool (a.testBit k || b.testBit k)) ∧ w' = w := fun w => by
        rw [← e2]; exact has_any _ _ (or_lt ha hb) w
      have hL : ∀ w, Calls Try.prog 13 #[.int .u64 (andn a b : Nat), .int .i64 k] w fun e w' => e = .returned (.bool (a.testBit k && !b.testBit k)) ∧ w' = w := fun w => by
        rw [← e3]; exact has_any _ _ (andn_lt b ha) w
      clear e1 e2 e3
      generalize hvi : allTo (fun j => !a.testBit j || b.testBit j) k = vi at *
      generalize hvm : anyTo (fun j => a.testBit j && b.testBit j) k = vm at *
      clear hvi hvm
      replace b1 := Lib.hid b1
      replace b2 := Lib.hid b2
      cases hx : a.testBit k <;> cases hy : b.testBit k
      all_goals
        rw [hx] at c1 hA hO hL HI HM
        rw [hy] at c2 hA hO hL HI HM
        replace hA := Lib.hid hA
        replace hO := Lib.hid hO
        replace hL := Lib.hid hL
        replace hx := Lib.hid hx
        replace hy := Lib.hid hy
        cases vi <;> cases vm
        all_goals
          go_wp2_with fail
          go_quiet ((go_at_call 13; first | (with_reducible exact Calls.quiet_of_same (hA.out _)) | (with_reducible exact Calls.quiet_of_same (hO.out _)) | (with_reducible exact Calls.quiet_of_same (hL.out _))))
          go_wp2
          go_roundw
          case rel => exact ⟨k + 1, by omega, by go_num, by rw [HI.out]; rfl, by rw [HM.out]; rfl, b1.out, b2.out, below_drawn hBr _⟩
          case measure => simp [intOf]; omega
    · obtain rfl : k = 64 := by omega
      have hI : ∀ w, Calls Try.prog 14 #[.int .u64 a, .int .u64 b] w fun e w' => e = .returned (.bool (allTo (fun j => !a.testBit j || b.testBit j) 64)) ∧ w' = w := fun w => by
        rw [← in_all ha hb]; exact in_any _ _ ha hb w
      have hM : ∀ w, Calls Try.prog 15 #[.int .u64 a, .int .u64 b] w fun e w' => e = .returned (.bool (anyTo (fun j => a.testBit j && b.testBit j) 64)) ∧ w' = w := fun w => by
        rw [← meets_any_bit ha]; exact meets_any _ _ ha hb w
      generalize allTo (fun j => !a.testBit j || b.testBit j) 64 = vi at *
      generalize anyTo (fun j => a.testBit j && b.testBit j) 64 = vm at *
      replace hI := Lib.hid hI
      replace hM := Lib.hid hM
      go_wp2_with (first | (go_at_call 14; refine (hI.out _).mono ?_; rintro e w' ⟨rfl, rfl⟩) | (go_at_call 15; refine (hM.out _).mono ?_; rintro e w' ⟨rfl, rfl⟩))
      go_ret
      exact ⟨rfl, hBr⟩
end Go.Proofs.Ytmmhcfbnelggfaa
