/- The cells of a set (an array of 64 bools), and plain lemmas on words and sets. -/
import Derived.Test.YtmmhcfbnelggfaaDoorRows
import Derived.WalkKit
import Derived.WalkLawsBesides
import Derived.WalkSpells
import Derived.Deep.QuietTactic
import Derived.BigQuiet
import Derived.Lib.Hide
import Derived.Deep.MidRow
namespace Go.Proofs.YtmmhcfbnelggfaaDoor
open Go.RowKit

theorem below_setRow {B : Nat} {a w : World} (h : Below B a w) {g : Nat} (hg : B ≤ g) (cs : Array Value) : Below B a (w.setRow g cs) :=
  h.trans ⟨rfl, rfl, rfl, by simp, fun k hk => setRow_other w g k cs (by omega)⟩

/-- The cells of a set. -/
def setC (f : Nat → Bool) : Array Value := ((List.range 64).map fun i => Value.bool (f i)).toArray

theorem setC_size (f : Nat → Bool) : (setC f).size = 64 := by simp [setC]
theorem setC_get (f : Nat → Bool) (i : Nat) (h : i < 64) : (setC f)[i]? = some (.bool (f i)) := by
  simp [setC, h]
theorem setC_set (f g : Nat → Bool) (k : Nat) (b : Bool) (hk : k < 64) (hb : g k = b) (hg : ∀ j, j ≠ k → g j = f j) : (setC f).setIfInBounds k (.bool b) = setC g := by
  apply Array.ext_getElem?
  intro i
  rw [Array.getElem?_setIfInBounds]
  by_cases h : k = i
  · subst h; rw [if_pos rfl, if_pos (by rw [setC_size]; exact hk), setC_get _ _ hk, hb]
  · rw [if_neg h]
    by_cases hi : i < 64
    · rw [setC_get _ _ hi, setC_get _ _ hi, hg i (fun e => h e.symm)]
    · rw [Array.getElem?_eq_none (by rw [setC_size]; omega), Array.getElem?_eq_none (by rw [setC_size]; omega)]
theorem setC_congr {f g : Nat → Bool} (h : ∀ i, i < 64 → f i = g i) : setC f = setC g := by
  unfold setC
  congr 1
  apply List.map_congr_left
  intro i hi
  rw [h i (by simpa using hi)]
theorem setC_one (f : Nat → Bool) : (setC f).all (·.oneCell') = true := by
  unfold setC
  simp [Value.oneCell']
theorem size_set (f : Nat → Bool) : (Tryd.prog.info? 29).map (·.size) = some (setC f).size := by rw [setC_size]; kernel_rfl

theorem lt64 {a : Nat} (h : a < 18446744073709551616) (k : Nat) : a / 2 ^ k < 18446744073709551616 := Nat.lt_of_le_of_lt (Nat.div_le_self _ _) h
theorem bit_div (a k : Nat) : ((a / 2 ^ k : Nat) : Int) % 2 = if a.testBit k then 1 else 0 := by
  rw [Nat.testBit_eq_decide_div_mod_eq]
  split <;> rename_i h <;> simp at h <;> omega
theorem bit_div' (a k : Nat) : (((a / 2 ^ k : Nat) : Int) % 2 == 1) = a.testBit k := by
  rw [bit_div]; cases a.testBit k <;> rfl

/-- The number of a set's first k bits. -/
def wordTo (f : Nat → Bool) : Nat → Nat
  | 0 => 0
  | k + 1 => wordTo f k + if f k then 2 ^ k else 0
theorem wordTo_lt (f : Nat → Bool) (k : Nat) : wordTo f k < 2 ^ k := by
  induction k with
  | zero => simp [wordTo]
  | succ k ih => rw [wordTo, Nat.pow_succ]; split <;> omega
theorem wordTo_bit (f : Nat → Bool) (k i : Nat) : (wordTo f k).testBit i = (decide (i < k) && f i) := by
  induction k with
  | zero => simp [wordTo]
  | succ k ih =>
    rw [wordTo]
    have h := wordTo_lt f k
    have hi : i < k ∨ i = k ∨ k < i := by omega
    by_cases hf : f k = true
    · rw [if_pos hf, Nat.add_comm]
      rcases hi with hi | hi | hi
      · rw [Nat.testBit_two_pow_add_gt hi, ih]; simp [hi, show i < k + 1 by omega]
      · subst hi; rw [Nat.testBit_two_pow_add_eq, ih]; simp [hf]
      · rw [Nat.testBit_lt_two_pow (Nat.lt_of_lt_of_le (show 2 ^ k + wordTo f k < 2 ^ (k + 1) by rw [Nat.pow_succ]; omega) (Nat.pow_le_pow_right (by omega) hi))]
        simp [show ¬ i < k + 1 by omega]
    · rw [if_neg hf, Nat.add_zero, ih]
      rcases hi with hi | hi | hi
      · simp [hi, show i < k + 1 by omega]
      · subst hi; simp [show f i = false by simpa using hf]
      · simp [show ¬ i < k by omega, show ¬ i < k + 1 by omega]
def word (f : Nat → Bool) : Nat := wordTo f 64
theorem word_lt (f : Nat → Bool) : word f < 18446744073709551616 := wordTo_lt f 64
theorem word_bit (f : Nat → Bool) (i : Nat) : (word f).testBit i = (decide (i < 64) && f i) := wordTo_bit f 64 i
/-- A word is a set's just if its bits are. -/
theorem eq_word {a : Nat} {f : Nat → Bool} (ha : a < 18446744073709551616) (h : ∀ i, i < 64 → a.testBit i = f i) : a = word f := by
  apply Nat.eq_of_testBit_eq
  intro i
  rw [word_bit]
  by_cases hi : i < 64
  · simp [hi, h i hi]
  · simp only [hi, decide_false, Bool.false_and]
    exact Nat.testBit_lt_two_pow (Nat.lt_of_lt_of_le ha (show 2 ^ 64 ≤ 2 ^ i from Nat.pow_le_pow_right (by omega) (by omega)))
theorem word_inj {f g : Nat → Bool} (h : word f = word g) : ∀ i, i < 64 → f i = g i := by
  intro i hi
  have := congrArg (fun n => Nat.testBit n i) h
  simpa [word_bit, hi] using this

theorem setC_zero : setC (fun _ => false) = #[.bool false, .bool false, .bool false, .bool false, .bool false, .bool false, .bool false, .bool false, .bool false, .bool false, .bool false, .bool false, .bool false, .bool false, .bool false, .bool false, .bool false, .bool false, .bool false, .bool false, .bool false, .bool false, .bool false, .bool false, .bool false, .bool false, .bool false, .bool false, .bool false, .bool false, .bool false, .bool false, .bool false, .bool false, .bool false, .bool false, .bool false, .bool false, .bool false, .bool false, .bool false, .bool false, .bool false, .bool false, .bool false, .bool false, .bool false, .bool false, .bool false, .bool false, .bool false, .bool false, .bool false, .bool false, .bool false, .bool false, .bool false, .bool false, .bool false, .bool false, .bool false, .bool false, .bool false, .bool false] := rfl
theorem setRow_alloc (w : World) (cs cs' : Array Value) (t : TypeId) : (w.alloc (.cells cs t)).setRow w.heap.size cs' = w.alloc (.cells cs' t) := by
  have h : ∀ (A : Array Obj), (A.push (.cells cs t)).modify A.size (fun | .cells _ elem fr => .cells cs' elem fr | o => o) = A.push (.cells cs' t) := by
    intro A
    apply Array.ext_getElem?
    intro i
    rw [Array.getElem?_modify, Array.getElem?_push, Array.getElem?_push]
    by_cases hi : A.size = i
    · subst hi; simp
    · rw [if_neg hi, if_neg (fun e => hi e.symm), if_neg (fun e => hi e.symm)]
  show ({ w with heap := _ } : World) = { w with heap := _ }
  congr 1
  exact h w.heap
theorem run_load_set {w : World} {g : Nat} {f : Nat → Bool} (h : w.heap[g]? = some (.cells (setC f) 29 (0, 0))) :
    (Instr.loadAt 29 (.pointer (some ⟨g, 0, none⟩))).run Tryd.prog w = .ok (.agg (setC f)) w := by
  simp only [Instr.loadAt, Instr.sureAddr, Sem.run_bind, Sem.run_pure, Result.andThen_ok, run_loadVar_row w g 29 29 _ (0, 0) _ h Tryd.underlying29 rfl (size_set f)]
theorem run_store_fresh (w : World) (f : Nat → Bool) :
    (Instr.storeAt 29 (.pointer (some ⟨w.heap.size, 0, none⟩)) (.agg (setC f))).run Tryd.prog (w.alloc (.cells #[.bool false, .bool false, .bool false, .bool false, .bool false, .bool false, .bool false, .bool false, .bool false, .bool false, .bool false, .bool false, .bool false, .bool false, .bool false, .bool false, .bool false, .bool false, .bool false, .bool false, .bool false, .bool false, .bool false, .bool false, .bool false, .bool false, .bool false, .bool false, .bool false, .bool false, .bool false, .bool false, .bool false, .bool false, .bool false, .bool false, .bool false, .bool false, .bool false, .bool false, .bool false, .bool false, .bool false, .bool false, .bool false, .bool false, .bool false, .bool false, .bool false, .bool false, .bool false, .bool false, .bool false, .bool false, .bool false, .bool false, .bool false, .bool false, .bool false, .bool false, .bool false, .bool false, .bool false, .bool false] 29)) = .ok () (w.alloc (.cells (setC f) 29)) := by
  have h := run_storeVar_row (P := Tryd.prog) (w.alloc (.cells (setC fun _ => false) 29)) w.heap.size 29 29 _ (setC f) (heap_alloc_new _ _) (size_set f) (by rw [setC_size, setC_size]) (setC_one f)
  rw [setRow_alloc, setC_zero] at h
  simp only [Instr.storeAt, Instr.sureAddr, Sem.run_bind, Sem.run_pure, Result.andThen_ok, h]
theorem run_cells_fresh (w : World) (f : Nat → Bool) :
    (storeCells ⟨w.heap.size, 0, none⟩ (setC f).toList).run Tryd.prog (w.alloc (.cells #[.bool false, .bool false, .bool false, .bool false, .bool false, .bool false, .bool false, .bool false, .bool false, .bool false, .bool false, .bool false, .bool false, .bool false, .bool false, .bool false, .bool false, .bool false, .bool false, .bool false, .bool false, .bool false, .bool false, .bool false, .bool false, .bool false, .bool false, .bool false, .bool false, .bool false, .bool false, .bool false, .bool false, .bool false, .bool false, .bool false, .bool false, .bool false, .bool false, .bool false, .bool false, .bool false, .bool false, .bool false, .bool false, .bool false, .bool false, .bool false, .bool false, .bool false, .bool false, .bool false, .bool false, .bool false, .bool false, .bool false, .bool false, .bool false, .bool false, .bool false, .bool false, .bool false, .bool false, .bool false] 29)) = .ok () (w.alloc (.cells (setC f) 29)) := by
  have h := run_storeCells_from (P := Tryd.prog) w.heap.size 29 (setC f).toList 0 (setC fun _ => false) (w.alloc (.cells (setC fun _ => false) 29)) (heap_alloc_new _ _) (by simp [setC_size]) (fun v hv => (Array.all_eq_true_iff_forall_mem.1 (setC_one f)) v (by simpa using hv))
  rw [setRow_alloc, setC_zero] at h
  simpa using h
theorem run_load_cells {w : World} {g : Nat} {f : Nat → Bool} (h : w.heap[g]? = some (.cells (setC f) 29 (0, 0))) :
    (loadCells ⟨g, 0, none⟩ 64).run Tryd.prog w = .ok (setC f) w := by
  have := run_loadCells_list (P := Tryd.prog) w ⟨g, 0, none⟩ (setC f).toList (fun j v hv => by rw [Addr.add_mid, cell_of_row w g _ (setC f) _ _ h]; simpa using hv)
  rw [Array.length_toList, setC_size, Array.toArray_toList] at this
  exact this
end Go.Proofs.YtmmhcfbnelggfaaDoor
