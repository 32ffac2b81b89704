/- The reference's Of and Word. -/
import Derived.Test.YtmmhcfbnelggfaaDoorSet
namespace Go.Proofs.YtmmhcfbnelggfaaDoor
open Go.RowKit

set_option maxHeartbeats 400000 in
theorem of_any (a : Nat) (w : World) (ha : a < 18446744073709551616) :
    Calls Tryd.prog 12 #[.int .u64 a] w fun e w' => e = .returned (.agg (setC fun i => a.testBit i)) ∧ Below w.heap.size w w' := by
  go_enter Tryd.func12, Tryd.ntmps12
  go_wp2
  go_loopw [0, 4] (fun m i wr => ∃ k : Nat, k ≤ 64 ∧ i = .int .i64 k ∧ m = .int .u64 (a / 2^k : Nat) ∧ wr.heap[w.heap.size]? = some (.cells (setC fun _ => false) 29 (0,0)) ∧ wr.heap[w.heap.size+1]? = some (.cells (setC fun j => decide (j<k) && a.testBit j) 29 (0,0)) ∧ Below w.heap.size w wr)
    (fun _ i _ => 64 - (intOf i).toNat)
  case atStart =>
    exact ⟨0, by omega, rfl, by simp, heap_alloc2_old w (.cells (setC fun _ => false) 29) (.cells (setC fun _ => false) 29), heap_alloc2_new w (.cells (setC fun _ => false) 29) (.cells (setC fun _ => false) 29), ((Below.refl _ w).alloc (Nat.le_refl _) _).alloc (by simp) _⟩
  case round =>
    obtain ⟨k, hk, rfl, rfl, hb1, hb2, hB⟩ := hrel
    have hq := lt64 ha k
    have HB := bit_div' a k
    generalize hq' : a / 2^k = q at *
    have HQ := Lib.hid hq'; clear hq'
    replace HB := Lib.hid HB
    by_cases hlt : k < 64
    · have hc : wr.cell? ⟨w.heap.size+1, k, none⟩ = some (.bool (decide (k<k) && a.testBit k)) := by
        rw [cell_of_row _ _ _ _ _ _ hb2, setC_get _ _ hlt]
      have hf := frozen_of_row wr (w.heap.size+1) k _ _ hb2
      have H1 := Lib.hid hb1; have H2 := Lib.hid hb2; clear hb1 hb2
      go_wp2
      go_roundw
      case rel =>
        refine ⟨k + 1, by omega, by go_num, ?_, ?_, ?_, hB.setCell (by simp) _⟩
        · rw [← HQ.out, Nat.pow_succ, ← Nat.div_div_eq_div_mul]; rfl
        · rw [heap_setCell_other _ _ _ _ (by simp)]; exact H1.out
        · rw [heap_setCell_same _ _ _ _ _ _ H2.out]
          rw [setC_set _ (fun j => decide (j < k + 1) && a.testBit j) k _ hlt ?_ ?_]
          · rw [HB.out]; simp
          · intro j hj
            rcases Nat.lt_or_gt_of_ne hj with h | h
            · simp [h, show j < k + 1 by omega]
            · simp [show ¬ j < k by omega, show ¬ j < k + 1 by omega]
      case measure => simp [intOf]; omega
    · have hk' : k = 64 := by omega
      subst hk'
      have H1 := Lib.hid hb1; have H2 := Lib.hid hb2; clear hb1 hb2
      go_wp2_with (first | (refine wpList_load_row rfl 29 (.tmp 3) rfl (w.heap.size+1) rfl 29 _ (0,0) _ H2.out Tryd.underlying29 rfl (size_set _) ?_) | (refine wpList_store_row rfl 29 (.tmp 2) (.tmp 16) rfl w.heap.size _ rfl rfl 29 _ H1.out (size_set _) (by rw [setC_size, setC_size]) (setC_one _) ?_))
      refine bodyPost_ret (v := .agg (setC fun j => decide (j < 64) && a.testBit j)) (results_cell_row (fn := Tryd.f12) rfl _ _ w.heap.size 29 _ (0, 0) _ rfl (setRow_heap _ _ _ _ _ _ H1.out) Tryd.underlying29 rfl (size_set _)) rfl ⟨?_, below_setRow hB (Nat.le_refl _) _⟩
      rw [setC_congr (g := fun i => a.testBit i)]
      intro i hi
      simp [hi]

set_option maxHeartbeats 400000 in
theorem word_any (f : Nat → Bool) (w : World) :
    Calls Tryd.prog 10 #[.agg (setC f)] w fun e w' => e = .returned (.int .u64 (word f)) ∧ Below w.heap.size w w' := by
  go_enter Tryd.func10, Tryd.ntmps10
  go_wp2
  go_loopw [3, 4, 5] (fun m q i wr => ∃ k q0 : Nat, k ≤ 64 ∧ i = .int .i64 k ∧ m = .int .u64 (wordTo f k : Nat) ∧ q = .int .u64 (q0 : Nat) ∧ (k < 64 → q0 = 2 ^ k) ∧ wr.heap[w.heap.size]? = some (.cells (setC f) 29 (0,0)) ∧ Below w.heap.size w wr)
    (fun _ _ i _ => 64 - (intOf i).toNat)
  case atStart =>
    exact ⟨0, 1, by omega, rfl, rfl, rfl, fun _ => rfl, heap_alloc_new w _, (Below.refl _ w).alloc (Nat.le_refl _) _⟩
  case round =>
    obtain ⟨k, q0, hk, rfl, rfl, rfl, hq, hb1, hB⟩ := hrel
    by_cases hlt : k < 64
    · replace hq := hq hlt
      have hw := wordTo_lt f k
      have hp : 2 ^ k ≤ 2 ^ 63 := Nat.pow_le_pow_right (by omega) (by omega)
      rw [← hq] at hw hp
      have HQ := Lib.hid hq
      clear hq
      have hp' : q0 ≤ 9223372036854775808 := hp
      clear hp
      have hc : wr.cell? ⟨w.heap.size, k, none⟩ = some (.bool (f k)) := by
        rw [cell_of_row _ _ _ _ _ _ hb1, setC_get _ _ hlt]
      have H1 := Lib.hid hb1; clear hb1
      have HS : Hid (wordTo f (k + 1) = wordTo f k + if f k then q0 else 0) := by rw [HQ.out]; exact rfl
      generalize hs : wordTo f k = s at *
      replace hs := Lib.hid hs
      have fin : ∃ q1 : Nat, Value.int .u64 (IntKind.u64.wrap (q0 * 2)) = .int .u64 q1 ∧ (k + 1 < 64 → q1 = 2 ^ (k + 1)) := by
        refine ⟨q0 * 2 % 18446744073709551616, ?_, ?_⟩
        · rw [IntKind.wrap_u64]; simp
        · intro h
          have h2 : 2 ^ (k + 1) < 2 ^ 64 := Nat.pow_lt_pow_right (by omega) h
          have h3 := HQ.out
          rw [Nat.pow_succ, ← h3] at h2 ⊢
          exact Nat.mod_eq_of_lt h2
      have F := Lib.hid fin; clear fin
      cases hb : f k
      all_goals
        rw [hb] at hc HS
        replace hb := Lib.hid hb
        go_wp2
        go_roundw
        case rel =>
          obtain ⟨q1, e1, e2⟩ := F.out
          exact ⟨k + 1, q1, by omega, by go_num, by rw [HS.out]; simp, e1, e2, H1.out, hB⟩
        case measure => simp [intOf]; omega
    · have hk' : k = 64 := by omega
      subst hk'
      have H1 := Lib.hid hb1; clear hb1
      go_wp2
      go_ret
      exact ⟨rfl, hB⟩

/-- How many of a set are below i. -/
def rankTo (f : Nat → Bool) : Nat → Nat
  | 0 => 0
  | k + 1 => rankTo f k + if f k then 1 else 0
theorem rankTo_le (f : Nat → Bool) (k : Nat) : rankTo f k ≤ k := by
  induction k with
  | zero => simp [rankTo]
  | succ k ih => rw [rankTo]; split <;> omega
/-- The subset with n ahead of it: the bits of n at the places of the set. -/
def subOf (f : Nat → Bool) (n i : Nat) : Bool := f i && n.testBit (rankTo f i)

end Go.Proofs.YtmmhcfbnelggfaaDoor
