/- Plain lemmas: masks keep the laws of sets. -/
import Derived.Test.YtmmhcfbnelggfaaDoorAwake
import Derived.Test.YtmmhcfbnelggfaaDoorLawOne
namespace Go.Proofs.YtmmhcfbnelggfaaDoor
open Go.RowKit Go.Shelf

theorem mem_numsTo (f : Nat → Bool) (n i : Nat) : i ∈ numsTo f n ↔ i < n ∧ f i = true := by simp [numsTo]
theorem maskOf_bit (l : List Int) (j : Nat) : (maskOf l).testBit j = l.any fun i => (decide (0 ≤ i) && decide (i < 64) && decide (i = (j : Int))) := by
  have key : ∀ (l : List Int) (m : Nat), (l.foldl (fun m i => m ||| bitN i) m).testBit j = (m.testBit j || l.any fun i => (decide (0 ≤ i) && decide (i < 64) && decide (i = (j : Int)))) := by
    intro l
    induction l with
    | nil => intro m; simp
    | cons x l ih => intro m; rw [List.foldl_cons, ih, Nat.testBit_or, bitN_bit, List.any_cons, Bool.or_assoc]
  rw [maskOf, key, Nat.zero_testBit, Bool.false_or]
theorem maskOf_lt (l : List Int) : maskOf l < 18446744073709551616 := by
  have key : ∀ (l : List Int) (m : Nat), m < 18446744073709551616 → l.foldl (fun m i => m ||| bitN i) m < 18446744073709551616 := by
    intro l
    induction l with
    | nil => intro m h; exact h
    | cons x l ih => intro m h; exact ih _ (or_lt h (bitN_lt x))
  exact key l 0 (by omega)
theorem fits_nums (m : Nat) : fits (asInts (nums m)) = true := by
  unfold fits asInts
  rw [List.all_map, List.all_eq_true]
  intro x hx
  have := ((mem_numsTo _ _ _).1 hx).1
  simp; omega
/-- The mask of a mask's numbers is itself. -/
theorem of_nums {m : Nat} (hm : m < 18446744073709551616) : ofTold (asInts (nums m)) = .tuple #[.int .u64 (m : Nat), .int .i64 0] := by
  have e : maskOf (asInts (nums m)) = m := by
    rw [← word_self hm]
    refine eq_word (maskOf_lt _) fun j hj => ?_
    rw [word_self hm, maskOf_bit, asInts, List.any_map]
    rw [Bool.eq_iff_iff, List.any_eq_true]
    constructor
    · rintro ⟨x, hx, hp⟩
      simp only [Function.comp, Bool.and_eq_true, decide_eq_true_eq] at hp
      obtain rfl : x = j := by omega
      exact ((mem_numsTo _ _ _).1 hx).2
    · intro hb
      exact ⟨j, (mem_numsTo _ _ _).2 ⟨hj, hb⟩, by simp; omega⟩
  rw [ofTold, if_pos (fits_nums m), e]

theorem ext64 {a b : Nat} (h : ∀ i, a.testBit i = b.testBit i) : a = b := Nat.eq_of_testBit_eq h
theorem less_meets {a b : Nat} (ha : a < 18446744073709551616) (hb : b < 18446744073709551616) : andn a b &&& (a &&& b) = 0 := ext64 fun i => by
  rw [Nat.testBit_and, andn_bit ha hb, Nat.testBit_and, Nat.zero_testBit]; cases a.testBit i <;> cases b.testBit i <;> rfl
theorem less_or {a b : Nat} (ha : a < 18446744073709551616) (hb : b < 18446744073709551616) : andn a b ||| (a &&& b) = a := ext64 fun i => by
  rw [Nat.testBit_or, andn_bit ha hb, Nat.testBit_and]; cases a.testBit i <;> cases b.testBit i <;> rfl
theorem counts (a b : Nat) : cnt (a ||| b) + cnt (a &&& b) = cnt a + cnt b := by
  have h : ∀ n, rankTo (a ||| b).testBit n + rankTo (a &&& b).testBit n = rankTo a.testBit n + rankTo b.testBit n := fun n => by
    induction n with
    | zero => rfl
    | succ n ih =>
      have e : ∀ f : Nat → Bool, rankTo f (n + 1) = rankTo f n + if f n then 1 else 0 := fun _ => rfl
      rw [e, e, e, e, Nat.testBit_or, Nat.testBit_and]
      cases a.testBit n <;> cases b.testBit n <;> simp <;> omega
  exact h 64
theorem in_or {a b : Nat} (ha : a < 18446744073709551616) (hb : b < 18446744073709551616) : andn a b = 0 ↔ a ||| b = b := by
  constructor
  · intro h; apply ext64; intro i
    have := andn_bit ha hb i
    rw [h, Nat.zero_testBit] at this
    rw [Nat.testBit_or]; cases hx : a.testBit i <;> cases hy : b.testBit i <;> simp [hx, hy] at this ⊢
  · intro h; apply ext64; intro i
    have := congrArg (fun n => Nat.testBit n i) h
    simp only [Nat.testBit_or] at this
    rw [andn_bit ha hb, Nat.zero_testBit]; cases hx : a.testBit i <;> cases hy : b.testBit i <;> simp [hx, hy] at this ⊢
theorem in_and {a b : Nat} (ha : a < 18446744073709551616) (hb : b < 18446744073709551616) : andn a b = 0 ↔ a &&& b = a := by
  constructor
  · intro h; apply ext64; intro i
    have := andn_bit ha hb i
    rw [h, Nat.zero_testBit] at this
    rw [Nat.testBit_and]; cases hx : a.testBit i <;> cases hy : b.testBit i <;> simp [hx, hy] at this ⊢
  · intro h; apply ext64; intro i
    have := congrArg (fun n => Nat.testBit n i) h
    simp only [Nat.testBit_and] at this
    rw [andn_bit ha hb, Nat.zero_testBit]; cases hx : a.testBit i <;> cases hy : b.testBit i <;> simp [hx, hy] at this ⊢
theorem not_bit {a : Nat} (ha : a < 18446744073709551616) (i : Nat) : (andn (aheadN 64) a).testBit i = (decide (i < 64) && !a.testBit i) := by
  rw [andn_bit (aheadN_lt _) ha, aheadN_bit]; rfl
theorem not_lt {a : Nat} : andn (aheadN 64) a < 18446744073709551616 := andn_lt _ (aheadN_lt _)
theorem not_not {a : Nat} (ha : a < 18446744073709551616) : andn (aheadN 64) (andn (aheadN 64) a) = a := ext64 fun i => by
  rw [not_bit not_lt, not_bit ha]
  by_cases hi : i < 64
  · simp [hi]
  · simp [hi, high_bit ha (show 64 ≤ i by omega)]
theorem not_or {a b : Nat} (ha : a < 18446744073709551616) (hb : b < 18446744073709551616) : andn (aheadN 64) a &&& andn (aheadN 64) b = andn (aheadN 64) (a ||| b) := ext64 fun i => by
  rw [Nat.testBit_and, not_bit ha, not_bit hb, not_bit (or_lt ha hb), Nat.testBit_or]
  cases decide (i < 64) <;> cases a.testBit i <;> cases b.testBit i <;> rfl
theorem not_cnt {a : Nat} (ha : a < 18446744073709551616) : cnt (andn (aheadN 64) a) + cnt a = 64 := by
  have h : ∀ n, n ≤ 64 → rankTo (andn (aheadN 64) a).testBit n + rankTo a.testBit n = n := fun n => by
    induction n with
    | zero => intro _; rfl
    | succ n ih =>
      intro hn
      have e : ∀ f : Nat → Bool, rankTo f (n + 1) = rankTo f n + if f n then 1 else 0 := fun _ => rfl
      have := ih (by omega)
      rw [e, e, not_bit ha, show decide (n < 64) = true by simp; omega]
      cases a.testBit n <;> simp <;> omega
  exact h 64 (Nat.le_refl _)

end Go.Proofs.YtmmhcfbnelggfaaDoor
