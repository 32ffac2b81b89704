/- The law's beginning: a mask of three numbers. -/
import Derived.Test.YtmmhcfbnelggfaaDoorList
import Derived.KernelRfl
namespace Go.Proofs.YtmmhcfbnelggfaaDoor
open Go.RowKit Go.Shelf
attribute [local go_sem] Oper.semAt_some

theorem t_three : ofTold [63, 3, 0] = .tuple #[.int .u64 9223372036854775817, .int .i64 0] := by kernel_rfl
theorem t_far : ofTold [64] = .tuple #[.int .u64 0, .int .i64 2] := by kernel_rfl
theorem t_next : told (nextN (Nat.testBit 9223372036854775817) 3) = .tuple #[.int .i64 63, .bool true] := by kernel_rfl
theorem t_nums : asInts (nums 9223372036854775817) = [0, 3, 63] := by kernel_rfl
theorem t_nums' : intsV (nums 9223372036854775817) = [.int .i64 0, .int .i64 3, .int .i64 63] := by kernel_rfl
theorem t_not : andn (aheadN 5) 9223372036854775817 = 22 := by kernel_rfl
/-- A word that is kept behind a name. -/
def w63 : Nat := 9223372036854775817

set_option maxRecDepth 100000 in
set_option maxHeartbeats 1000000 in
theorem awake_in (n : Nat) (hn : 4 ≤ n) (w : World) (hT : Tab w) :
    CallsIn Fence.wide n Tryd.prog 30 #[] w fun e W' => e = .returned (.bool true) ∧ Below w.heap.size w W' := by
  have h1 : 1 ≤ n := by omega
  have hlt0 := hT.lt
  replace hT := Lib.hid hT
  refine callsIn_of_wp Tryd.func30 rfl trivial ?_ rfl
  simp only [Tryd.ntmps30, List.size_toArray, List.length_nil, Nat.reduceSub, Array.replicate_succ, Array.replicate_zero, List.push_toArray, List.append_toArray, List.nil_append, List.cons_append]
  gi_wp2_with fail
  refine ⟨trivial, callsIn_wide.2 ((of_list _ [63, 3, 0] (by decide) _ (Ints.of_block (t := 3) (World.alloc_heap_new w _))).mono ?_)⟩
  rintro e w1 ⟨rfl, rfl⟩
  rw [t_three]
  gi_wp2_with fail
  refine ⟨trivial, callsIn_wide.2 ((of_list _ [64] (by decide) _ (Ints.of_block (t := 3) (by have := World.alloc_heap_new (w.alloc (.cells #[.int .i64 63, .int .i64 3, .int .i64 0] 3)) (.cells #[.int .i64 64] 3); simp only [World.size_alloc] at this; exact this))).mono ?_)⟩
  rintro e w1 ⟨rfl, rfl⟩
  rw [t_far]
  have hB : Below w.heap.size w ((w.alloc (.cells #[.int .i64 63, .int .i64 3, .int .i64 0] 3)).alloc (.cells #[.int .i64 64] 3)) := ((Below.refl _ w).alloc (Nat.le_refl _) _).alloc (by simp) _
  generalize (w.alloc (.cells #[.int .i64 63, .int .i64 3, .int .i64 0] 3)).alloc (.cells #[.int .i64 64] 3) = W0 at *
  have hT0 := hT.out.below hB hlt0
  gi_wp2_with fail
  refine ⟨trivial, callsIn_wide.2 ((next_any 9223372036854775817 3 (by omega) (by omega) W0 hT0).mono ?_)⟩
  rintro e W0 ⟨rfl, rfl⟩
  rw [t_next]
  gi_wp2_with fail
  refine ⟨trivial, (mnums_in (n - 1) (by omega) 9223372036854775817 (by omega) W0 hT0).mono ?_⟩
  rintro e W1 ⟨v, rfl, hrow, hB1⟩
  have hI := Ints.of_own hrow
  rw [t_nums] at hI
  obtain ⟨va, vc, rfl⟩ := hI.len
  have hB2 : Below w.heap.size w W1 := hB.trans (hB1.mono hB.size)
  clear hrow hB1 hB hT0 hT
  gi_wp2_with fail
  refine ⟨trivial, callsIn_wide.2 ((ints_any _ _ [0, 3, 63] [0, 3, 63] (by decide) _ (hI.below ((Below.refl _ _).alloc (Nat.le_refl _) _)) (Ints.of_block (t := 3) (World.alloc_heap_new W1 _))).mono ?_)⟩
  rintro e W2 ⟨rfl, hB3⟩
  have hB4 := (hB2.alloc hB2.size _).trans (hB3.mono (by have := hB2.size; simp; omega))
  rw [show decide (([0, 3, 63] : List Int) = [0, 3, 63]) = true from rfl]
  clear hB3 hB2 hI
  gi_wp2_with fail
  refine ⟨trivial, callsIn_wide.2 ((not_any 9223372036854775817 5 (by omega) _).mono ?_)⟩
  rintro e W2 ⟨rfl, rfl⟩
  rw [t_not]
  gi_wp2
  go_ret
  exact ⟨rfl, hB4⟩
end Go.Proofs.YtmmhcfbnelggfaaDoor
