/- The checked numbers are awake; the walk of CheckedPicks. -/
import Derived.Test.YtacmheeodhjlbaaSum
namespace Go.Proofs.Ytacmheeodhjlbaa
open Go.RowKit Go.WideShapes

theorem told5 : told (2 + 3) = .tuple #[.int .i64 5, .int .i64 0] := by kernel_rfl
theorem toldOver : told (4294967296 * 2147483648) = .tuple #[.int .i64 0, .int .i64 30] := by kernel_rfl
theorem toldE : toldEuclid (-7) 3 = .tuple #[.int .i64 2, .int .i64 0] := by kernel_rfl
theorem toldS : told ([4611686018427387904, 4611686018427387904, -4611686018427387904, -4611686018427387904, 5] : List Int).sum = .tuple #[.int .i64 5, .int .i64 0] := by kernel_rfl
theorem awake_any (w : World) : Calls Try.prog 23 #[] w fun e w' => e = .returned (.bool true) ∧ Below w.heap.size w w' := by
  have hA := Lib.hid (fun w => add_any 2 3 (by decide) (by decide) w)
  have hM := Lib.hid (fun w => mul_any 4294967296 2147483648 (by decide) (by decide) w)
  have hE := Lib.hid (fun w => euclid_any (-7) 3 (by decide) w)
  rw [told5] at hA
  rw [toldOver] at hM
  rw [toldE] at hE
  have hnew := Blk.new w #[.int .i64 4611686018427387904, .int .i64 4611686018427387904, .int .i64 (-4611686018427387904), .int .i64 (-4611686018427387904), .int .i64 5] 2
  have hB1 : Below w.heap.size w (w.alloc (.cells #[.int .i64 4611686018427387904, .int .i64 4611686018427387904, .int .i64 (-4611686018427387904), .int .i64 (-4611686018427387904), .int .i64 5] 2)) := (Below.refl _ w).alloc (Nat.le_refl _) _
  have hS := Lib.hid (sum_any [4611686018427387904, 4611686018427387904, -4611686018427387904, -4611686018427387904, 5] (.slice (some ⟨w.heap.size, 0, none⟩) 5 5) (w.alloc (.cells #[.int .i64 4611686018427387904, .int .i64 4611686018427387904, .int .i64 (-4611686018427387904), .int .i64 (-4611686018427387904), .int .i64 5] 2)) (IntsAt.any (.inr ⟨_, 0, 5, rfl, ⟨by simp, by simp⟩, fun i hi => by
    rw [Nat.zero_add]
    match i, hi with
    | 0, _ => exact hnew.cell rfl
    | 1, _ => exact hnew.cell rfl
    | 2, _ => exact hnew.cell rfl
    | 3, _ => exact hnew.cell rfl
    | 4, _ => exact hnew.cell rfl⟩)) (by decide) (by decide))
  rw [toldS] at hS
  replace hB1 := Lib.hid hB1
  clear hnew
  go_enter Try.func23, Try.ntmps23
  go_wp2_with fail
  refine (hA.out _).mono ?_
  rintro e w1 ⟨rfl, rfl⟩
  go_wp2_with fail
  refine (hM.out _).mono ?_
  rintro e w2 ⟨rfl, rfl⟩
  go_wp2_with fail
  refine (hE.out _).mono ?_
  rintro e w3 ⟨rfl, rfl⟩
  go_wp2_with fail
  refine hS.out.mono ?_
  rintro e w4 ⟨rfl, rfl⟩
  go_wp2_with fail
  go_ret
  exact ⟨rfl, hB1.out⟩
theorem emod_succ (a n : Int) (hn : 0 < n) : (a + 1) % n = if a % n + 1 = n then 0 else a % n + 1 := by
  have hr0 := Int.emod_nonneg a (show n ≠ 0 by omega)
  have hr1 := Int.emod_lt_of_pos a hn
  rw [← Int.emod_add_emod]
  generalize a % n = r at *
  by_cases h : r + 1 = n
  · rw [if_pos h, h, Int.emod_self]
  · rw [if_neg h]
    exact Int.emod_eq_of_lt (by omega) (by omega)
set_option maxRecDepth 100000 in
set_option maxHeartbeats 4000000 in
theorem picks_any (a n : Int) (ha : InR a) (hn : InR n) (w : World) : Calls Try.prog 5 #[.int .i64 a, .int .i64 n] w fun e w' => e = .returned (.bool true) ∧ Below w.heap.size w w' := by
  have hA := Lib.hid (awake_any w)
  have hE := Lib.hid (fun w => euclid_any a n hn w)
  have hE1 := Lib.hid (fun w => euclid_any (a + 1) n hn w)
  have hEn := Lib.hid (fun w => euclid_any (a + n) n hn w)
  unfold toldEuclid tup at hE hE1 hEn
  unfold InR at ha hn
  by_cases h1 : n < 1
  · have t1 : decide (n < 1) = true := decide_eq_true h1
    rw [if_pos h1] at hE
    clear hE1 hEn
    go_enter Try.func5, Try.ntmps5
    go_wp2_with fail
    refine hA.out.mono ?_
    rintro e w1 ⟨rfl, hB⟩
    go_wp2_with fail
    refine (hE.out _).mono ?_
    rintro e w2 ⟨rfl, rfl⟩
    go_wp2_with fail
    go_ret
    exact ⟨rfl, hB⟩
  have t1 : decide (n < 1) = false := decide_eq_false h1
  rw [if_neg h1] at hE hE1 hEn
  have hr0 := Int.emod_nonneg a (show n ≠ 0 by omega)
  have hr1 := Int.emod_lt_of_pos a (show 0 < n by omega)
  have hs0 := Int.emod_nonneg (a + 1) (show n ≠ 0 by omega)
  have hs1 := Int.emod_lt_of_pos (a + 1) (show 0 < n by omega)
  have hsr := emod_succ a n (by omega)
  have hn2 : (a + n) % n = a % n := Int.add_emod_right a n
  have hra : 0 ≤ a → a < n → a % n = a := Int.emod_eq_of_lt
  rw [hn2] at hEn
  rw [hsr] at hE1
  clear hn2 hsr
  generalize a % n = r at *
  have w1 : wrap64 (r + 1) = r + 1 := IntWalk.wrap64_in _ (by omega)
  have hnz : (n == 0) = false := by rw [beq_eq_false_iff_ne]; omega
  have hnn : ¬ n = 0 := by omega
  have trr : (r == r) = true := beq_self_eq_true r
  have tr0 : decide (r < 0) = false := decide_eq_false (by omega)
  have trn : decide (n ≤ r) = false := decide_eq_false (by omega)
  replace hra := Lib.hid hra
  clear hs0 hs1
  by_cases c3 : r + 1 = n
  · subst c3
    rw [if_pos rfl] at hE1
    have hm : (r + 1) % (r + 1) = 0 := Int.emod_self
    have t3 : (r + 1 == r + 1) = true := beq_self_eq_true _
    by_cases c1 : a < 9223372036854775807 <;> by_cases c2 : a < 0
    all_goals
      go_enter Try.func5, Try.ntmps5
      go_wp2_with fail
      refine hA.out.mono ?_
      rintro e w1 ⟨rfl, hB⟩
      go_wp2_with fail
      refine (hE.out _).mono ?_
      rintro e w2 ⟨rfl, rfl⟩
    · have w2 : wrap64 (a + 1) = a + 1 := IntWalk.wrap64_in _ (by omega)
      have w3 : wrap64 (a + (r + 1)) = a + (r + 1) := IntWalk.wrap64_in _ (by omega)
      go_wp2_with fail
      refine (hE1.out _).mono ?_
      rintro e w3 ⟨rfl, rfl⟩
      go_wp2_with fail
      refine (hEn.out _).mono ?_
      rintro e w4 ⟨rfl, rfl⟩
      go_wp2_with fail
      go_ret
      exact ⟨rfl, hB⟩
    · have w2 : wrap64 (a + 1) = a + 1 := IntWalk.wrap64_in _ (by omega)
      go_wp2_with fail
      refine (hE1.out _).mono ?_
      rintro e w3 ⟨rfl, rfl⟩
      go_wp2_with fail
      all_goals
        go_ret
        refine ⟨?_, hB⟩
        first
          | rfl
          | (rw [hra.out (by omega) (by omega)]; simp)
    · omega
    · go_wp2_with fail
      all_goals
        go_ret
        refine ⟨?_, hB⟩
        first
          | rfl
          | (rw [hra.out (by omega) (by omega)]; simp)
  · rw [if_neg c3] at hE1
    have hm : (r + 1) % n = r + 1 := Int.emod_eq_of_lt (by omega) (by omega)
    have t3 : (r + 1 == n) = false := by rw [beq_eq_false_iff_ne]; exact c3
    have t4 : (r + 1 == r + 1) = true := beq_self_eq_true _
    by_cases c1 : a < 9223372036854775807 <;> by_cases c2 : a < 0
    all_goals
      go_enter Try.func5, Try.ntmps5
      go_wp2_with fail
      refine hA.out.mono ?_
      rintro e w1 ⟨rfl, hB⟩
      go_wp2_with fail
      refine (hE.out _).mono ?_
      rintro e w2 ⟨rfl, rfl⟩
    · have w2 : wrap64 (a + 1) = a + 1 := IntWalk.wrap64_in _ (by omega)
      have w3 : wrap64 (a + n) = a + n := IntWalk.wrap64_in _ (by omega)
      go_wp2_with fail
      refine (hE1.out _).mono ?_
      rintro e w3 ⟨rfl, rfl⟩
      go_wp2_with fail
      refine (hEn.out _).mono ?_
      rintro e w4 ⟨rfl, rfl⟩
      go_wp2_with fail
      go_ret
      exact ⟨rfl, hB⟩
    · have w2 : wrap64 (a + 1) = a + 1 := IntWalk.wrap64_in _ (by omega)
      go_wp2_with fail
      refine (hE1.out _).mono ?_
      rintro e w3 ⟨rfl, rfl⟩
      go_wp2_with fail
      all_goals
        go_ret
        refine ⟨?_, hB⟩
        first
          | rfl
          | (rw [hra.out (by omega) (by omega)]; simp)
    · omega
    · go_wp2_with fail
      all_goals
        go_ret
        refine ⟨?_, hB⟩
        first
          | rfl
          | (rw [hra.out (by omega) (by omega)]; simp)
end Go.Proofs.Ytacmheeodhjlbaa
