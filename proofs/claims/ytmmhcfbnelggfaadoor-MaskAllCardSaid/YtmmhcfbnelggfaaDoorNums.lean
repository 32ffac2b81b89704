/- The reference's Numbers. -/
import Derived.Test.YtmmhcfbnelggfaaDoorOf
import Derived.Maps.AppendAt
namespace Go.Proofs.YtmmhcfbnelggfaaDoor
open Go.RowKit

def numsTo (f : Nat → Bool) (k : Nat) : List Nat := (List.range k).filter f
theorem numsTo_succ (f : Nat → Bool) (k : Nat) : numsTo f (k + 1) = numsTo f k ++ if f k then [k] else [] := by
  unfold numsTo
  rw [List.range_succ, List.filter_append]
  cases h : f k <;> simp [h]
theorem numsTo_length (f : Nat → Bool) (k : Nat) : (numsTo f k).length = rankTo f k := by
  induction k with
  | zero => simp [numsTo, rankTo]
  | succ k ih => rw [numsTo_succ, rankTo, List.length_append, ih]; cases f k <;> simp
def intsV (l : List Nat) : List Value := l.map fun n => Value.int .i64 (n : Nat)
theorem info_int : (Tryd.prog.info? 3).map (fun i => (i.zero, i.size, i.bytes)) = some (some (.int .i64 0), 1, 8) := by kernel_rfl

set_option maxHeartbeats 800000 in
theorem numbers_any (f : Nat → Bool) (w : World) :
    Calls Tryd.prog 13 #[.agg (setC f)] w fun e w' => ∃ v, e = .returned v ∧ w'.ownsRow (w.heap.size + 1) 3 1 v (numsTo f 64).length (intsV (numsTo f 64)) ∧ Below w.heap.size w w' := by
  obtain ⟨i0, hi, hz0, hz1, hz2⟩ := info_parts info_int
  go_enter Tryd.func13, Tryd.ntmps13
  go_wp2
  go_loopw [3, 4] (fun v i wr => ∃ k : Nat, k ≤ 64 ∧ i = .int .i64 k ∧ wr.ownsRow (w.heap.size + 1) 3 1 v (numsTo f k).length (intsV (numsTo f k)) ∧ wr.heap[w.heap.size]? = some (.cells (setC f) 29 (0,0)) ∧ Below w.heap.size w wr ∧ w.heap.size < wr.heap.size)
    (fun _ i _ => 64 - (intOf i).toNat)
  case atStart =>
    exact ⟨0, by omega, rfl, World.ownsRow_nil _ _ _ _, heap_alloc_new w _, (Below.refl _ w).alloc (Nat.le_refl _) _, by simp⟩
  case round =>
    obtain ⟨k, hk, rfl, hown, hb1, hB, hsz⟩ := hrel
    by_cases hlt : k < 64
    · have hc : wr.cell? ⟨w.heap.size, k, none⟩ = some (.bool (f k)) := by
        rw [cell_of_row _ _ _ _ _ _ hb1, setC_get _ _ hlt]
      have hlen : (numsTo f k).length ≤ 64 := by rw [numsTo_length]; have := rankTo_le f k; omega
      have H1 := Lib.hid hb1; clear hb1
      have HS := Lib.hid (numsTo_succ f k)
      generalize numsTo f k = l at *
      cases hb : f k
      · rw [hb] at hc HS
        replace hb := Lib.hid hb
        go_wp2
        go_roundw
        case rel =>
          exact ⟨k + 1, by omega, by go_num, by rw [HS.out]; simpa using hown, H1.out, hB, hsz⟩
        case measure => simp [intOf]; omega
      · rw [hb] at hc HS
        replace hb := Lib.hid hb
        go_wp2_with (at_builtin; refine wpList_append_own _ rfl _ _ 22 rfl (w.heap.size + 1) 3 i0 (.int .i64 0) 1 8 Tryd.underlying22 hi hz0 hz1 hz2 rfl (by decide) _ _ _ rfl (hown.alloc _) ⟨wr.heap.size, 0, none⟩ 1 1 [.int .i64 k] rfl rfl (cell_one_new _ _ _) (by simp [Value.oneCell']) (by unfold maxLen; omega) (by omega) (by simp; omega) ?_; intro v' w1 hown' hgrow _)
        go_roundw
        case rel =>
          have hlt2 := (hown.alloc (.cells #[.int .i64 k] 3)).lt
          refine ⟨k + 1, by omega, by go_num, ?_, ?_, ?_, ?_⟩
          · rw [HS.out]; simpa [intsV] using hown'
          · rw [hgrow.block _ (by simp; omega) (fun e => by have := (hlt2 _ e.symm).1; omega), heap_alloc_old _ _ hsz]; exact H1.out
          · exact (hB.alloc hB.size _).grown hgrow (by simp; omega) (fun k' e => by have := (hlt2 _ e).1; omega)
          · have := hgrow.size; simp at this; omega
        case measure => simp [intOf]; omega
    · have hk' : k = 64 := by omega
      subst hk'
      have H1 := Lib.hid hb1; clear hb1
      go_wp2
      go_ret
      exact ⟨_, rfl, hown, hB⟩
end Go.Proofs.YtmmhcfbnelggfaaDoor
