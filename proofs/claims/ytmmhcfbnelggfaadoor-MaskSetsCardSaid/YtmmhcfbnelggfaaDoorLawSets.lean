/- The walk of MaskSets: masks keep the laws of sets. -/
import Derived.Test.YtmmhcfbnelggfaaDoorAwake
import Derived.Test.YtmmhcfbnelggfaaDoorLawOne
namespace Go.Proofs.YtmmhcfbnelggfaaDoor
open Go.RowKit Go.Shelf

theorem mem_numsTo (f : Nat → Bool) (n i : Nat) : i ∈ numsTo f n ↔ i < n ∧ f i = true := by simp [numsTo]
theorem maskOf_bit (l : List Int) (j : Nat) : (maskOf l).testBit j = l.any fun i => (decide (0 ≤ i) && decide (i < 64) && decide (i = (j : Int))) := by
  have key : ∀ (l : List Int) (m : Nat), (l.foldl (fun m i => m ||| bitN i) m).testBit j = (m.testBit j || l.any fun i => (decide (0 ≤ i) && decide (i < 64) && decide (i = (j : Int)))) := by
    intro l
    induction l with
    | nil => intro m; simp
    | cons x l ih => intro m; rw [List.foldl_cons, ih, Nat.testBit_or, bitN_bit, List.any_cons, Bool.or_assoc]
  rw [maskOf, key, Nat.zero_testBit, Bool.false_or]
theorem maskOf_lt (l : List Int) : maskOf l < 18446744073709551616 := by
  have key : ∀ (l : List Int) (m : Nat), m < 18446744073709551616 → l.foldl (fun m i => m ||| bitN i) m < 18446744073709551616 := by
    intro l
    induction l with
    | nil => intro m h; exact h
    | cons x l ih => intro m h; exact ih _ (or_lt h (bitN_lt x))
  exact key l 0 (by omega)
theorem fits_nums (m : Nat) : fits (asInts (nums m)) = true := by
  unfold fits asInts
  rw [List.all_map, List.all_eq_true]
  intro x hx
  have := ((mem_numsTo _ _ _).1 hx).1
  simp; omega
/-- The mask of a mask's numbers is itself. -/
theorem of_nums {m : Nat} (hm : m < 18446744073709551616) : ofTold (asInts (nums m)) = .tuple #[.int .u64 (m : Nat), .int .i64 0] := by
  have e : maskOf (asInts (nums m)) = m := by
    rw [← word_self hm]
    refine eq_word (maskOf_lt _) fun j hj => ?_
    rw [word_self hm, maskOf_bit, asInts, List.any_map]
    rw [Bool.eq_iff_iff, List.any_eq_true]
    constructor
    · rintro ⟨x, hx, hp⟩
      simp only [Function.comp, Bool.and_eq_true, decide_eq_true_eq] at hp
      obtain rfl : x = j := by omega
      exact ((mem_numsTo _ _ _).1 hx).2
    · intro hb
      exact ⟨j, (mem_numsTo _ _ _).2 ⟨hj, hb⟩, by simp; omega⟩
  rw [ofTold, if_pos (fits_nums m), e]

theorem ext64 {a b : Nat} (h : ∀ i, a.testBit i = b.testBit i) : a = b := Nat.eq_of_testBit_eq h
theorem less_meets {a b : Nat} (ha : a < 18446744073709551616) (hb : b < 18446744073709551616) : andn a b &&& (a &&& b) = 0 := ext64 fun i => by
  rw [Nat.testBit_and, andn_bit ha hb, Nat.testBit_and, Nat.zero_testBit]; cases a.testBit i <;> cases b.testBit i <;> rfl
theorem less_or {a b : Nat} (ha : a < 18446744073709551616) (hb : b < 18446744073709551616) : andn a b ||| (a &&& b) = a := ext64 fun i => by
  rw [Nat.testBit_or, andn_bit ha hb, Nat.testBit_and]; cases a.testBit i <;> cases b.testBit i <;> rfl
theorem counts (a b : Nat) : cnt (a ||| b) + cnt (a &&& b) = cnt a + cnt b := by
  have h : ∀ n, rankTo (a ||| b).testBit n + rankTo (a &&& b).testBit n = rankTo a.testBit n + rankTo b.testBit n := fun n => by
    induction n with
    | zero => rfl
    | succ n ih =>
      have e : ∀ f : Nat → Bool, rankTo f (n + 1) = rankTo f n + if f n then 1 else 0 := fun _ => rfl
      rw [e, e, e, e, Nat.testBit_or, Nat.testBit_and]
      cases a.testBit n <;> cases b.testBit n <;> simp <;> omega
  exact h 64
theorem in_or {a b : Nat} (ha : a < 18446744073709551616) (hb : b < 18446744073709551616) : andn a b = 0 ↔ a ||| b = b := by
  constructor
  · intro h; apply ext64; intro i
    have := andn_bit ha hb i
    rw [h, Nat.zero_testBit] at this
    rw [Nat.testBit_or]; cases hx : a.testBit i <;> cases hy : b.testBit i <;> simp [hx, hy] at this ⊢
  · intro h; apply ext64; intro i
    have := congrArg (fun n => Nat.testBit n i) h
    simp only [Nat.testBit_or] at this
    rw [andn_bit ha hb, Nat.zero_testBit]; cases hx : a.testBit i <;> cases hy : b.testBit i <;> simp [hx, hy] at this ⊢
theorem in_and {a b : Nat} (ha : a < 18446744073709551616) (hb : b < 18446744073709551616) : andn a b = 0 ↔ a &&& b = a := by
  constructor
  · intro h; apply ext64; intro i
    have := andn_bit ha hb i
    rw [h, Nat.zero_testBit] at this
    rw [Nat.testBit_and]; cases hx : a.testBit i <;> cases hy : b.testBit i <;> simp [hx, hy] at this ⊢
  · intro h; apply ext64; intro i
    have := congrArg (fun n => Nat.testBit n i) h
    simp only [Nat.testBit_and] at this
    rw [andn_bit ha hb, Nat.zero_testBit]; cases hx : a.testBit i <;> cases hy : b.testBit i <;> simp [hx, hy] at this ⊢
theorem not_bit {a : Nat} (ha : a < 18446744073709551616) (i : Nat) : (andn (aheadN 64) a).testBit i = (decide (i < 64) && !a.testBit i) := by
  rw [andn_bit (aheadN_lt _) ha, aheadN_bit]; rfl
theorem not_lt {a : Nat} : andn (aheadN 64) a < 18446744073709551616 := andn_lt _ (aheadN_lt _)
theorem not_not {a : Nat} (ha : a < 18446744073709551616) : andn (aheadN 64) (andn (aheadN 64) a) = a := ext64 fun i => by
  rw [not_bit not_lt, not_bit ha]
  by_cases hi : i < 64
  · simp [hi]
  · simp [hi, high_bit ha (show 64 ≤ i by omega)]
theorem not_or {a b : Nat} (ha : a < 18446744073709551616) (hb : b < 18446744073709551616) : andn (aheadN 64) a &&& andn (aheadN 64) b = andn (aheadN 64) (a ||| b) := ext64 fun i => by
  rw [Nat.testBit_and, not_bit ha, not_bit hb, not_bit (or_lt ha hb), Nat.testBit_or]
  cases decide (i < 64) <;> cases a.testBit i <;> cases b.testBit i <;> rfl
theorem not_cnt {a : Nat} (ha : a < 18446744073709551616) : cnt (andn (aheadN 64) a) + cnt a = 64 := by
  have h : ∀ n, n ≤ 64 → rankTo (andn (aheadN 64) a).testBit n + rankTo a.testBit n = n := fun n => by
    induction n with
    | zero => intro _; rfl
    | succ n ih =>
      intro hn
      have e : ∀ f : Nat → Bool, rankTo f (n + 1) = rankTo f n + if f n then 1 else 0 := fun _ => rfl
      have := ih (by omega)
      rw [e, e, not_bit ha, show decide (n < 64) = true by simp; omega]
      cases a.testBit n <;> simp <;> omega
  exact h 64 (Nat.le_refl _)

theorem beq_dec (x y : Nat) (p : Prop) [Decidable p] (h : p ↔ x = y) : ((x : Int) == (y : Int)) = decide p := by
  rw [Bool.eq_iff_iff, decide_eq_true_iff, h]; simp; omega
theorem bne_dec (x : Nat) : ((x : Int) != 0) = decide (x ≠ 0) := by
  by_cases h : x = 0 <;> simp [h]
set_option maxRecDepth 100000 in
set_option maxHeartbeats 4000000 in
theorem maskSets_any (a b : Nat) (ha : a < 18446744073709551616) (hb : b < 18446744073709551616) (w : World) (hT : Tab w) :
    Calls Tryd.prog 5 #[.int .u64 a, .int .u64 b] w fun e w' => e = .returned (.bool true) ∧ Below w.heap.size w w' := by
  have hA := callsIn_wide.1 (awake_in 9 (by omega) w hT)
  replace hA := Lib.hid hA
  replace hT := Lib.hid hT
  have cLess := fun w => less_any a b ha hb w
  have cAnd := fun w => and_any a b ha hb w
  have cAnd2 := fun w => and_any b a hb ha w
  rw [Nat.and_comm b a] at cAnd2
  have cOr := fun w => or_any a b ha hb w
  have cOr2 := fun w => or_any b a hb ha w
  rw [Nat.or_comm b a] at cOr2
  have cOrL := fun w => or_any (andn a b) (a &&& b) (andn_lt _ ha) (and_lt _ ha) w
  rw [less_or ha hb] at cOrL
  have cMeetsL := fun w => meets_any (andn a b) (a &&& b) (andn_lt _ ha) (and_lt _ ha) w
  rw [less_meets ha hb] at cMeetsL
  have cMeets := fun w => meets_any a b ha hb w
  have cIn := fun w => in_any a b ha hb w
  have hi1 : (((a ||| b : Nat) : Int) == (b : Int)) = decide (andn a b = 0) := beq_dec _ _ _ (in_or ha hb)
  have hi2 : (((a &&& b : Nat) : Int) == (a : Int)) = decide (andn a b = 0) := beq_dec _ _ _ (in_and ha hb)
  have hme : (((a &&& b : Nat) : Int) != 0) = decide (a &&& b ≠ 0) := bne_dec _
  have cCO := fun w => count_any (a ||| b) (or_lt ha hb) w
  have cCA := fun w => count_any (a &&& b) (and_lt _ ha) w
  have cCa := fun w => count_any a ha w
  have cCb := fun w => count_any b hb w
  have hcs := counts a b
  have hl1 : cnt (a ||| b) ≤ 64 := rankTo_le _ _
  have hl2 : cnt (a &&& b) ≤ 64 := rankTo_le _ _
  have hl3 : cnt a ≤ 64 := rankTo_le _ _
  have hl4 : cnt b ≤ 64 := rankTo_le _ _
  have cNa := fun w => not_any a 64 ha w
  have cNb := fun w => not_any b 64 hb w
  have cNo := fun w => not_any (a ||| b) 64 (or_lt ha hb) w
  have cNN := fun w => not_any (andn (aheadN 64) a) 64 not_lt w
  rw [not_not ha] at cNN
  have cNA := fun w => and_any (andn (aheadN 64) a) (andn (aheadN 64) b) not_lt not_lt w
  rw [not_or ha hb] at cNA
  have cCN := fun w => count_any (andn (aheadN 64) a) not_lt w
  have hnc := not_cnt ha
  have hcs' : (((cnt (a ||| b) : Nat) : Int) + ((cnt (a &&& b) : Nat) : Int) != ((cnt a : Nat) : Int) + ((cnt b : Nat) : Int)) = false := by simp; omega
  have hnc' : (((cnt (andn (aheadN 64) a) : Nat) : Int) == 64 - ((cnt a : Nat) : Int)) = true := by simp; omega
  clear hcs hnc
  generalize cnt (a ||| b) = co at *
  generalize cnt (a &&& b) = ca at *
  generalize cnt (andn (aheadN 64) a) = cna at *
  generalize cnt a = cma at *
  generalize cnt b = cmb at *
  generalize decide (a &&& b ≠ 0) = me at *
  generalize decide (andn a b = 0) = inn at *
  generalize andn (aheadN 64) a = na at *
  generalize andn (aheadN 64) b = nb at *
  generalize andn (aheadN 64) (a ||| b) = no at *
  generalize andn a b = L at *
  generalize a ||| b = O at *
  generalize a &&& b = A at *
  have cMeetsL' : ∀ w, Calls Tryd.prog 34 #[.int .u64 L, .int .u64 A] w fun e w' => e = .returned (.bool false) ∧ w' = w := cMeetsL
  clear cMeetsL
  replace cLess := Lib.hid cLess
  replace cAnd := Lib.hid cAnd
  replace cAnd2 := Lib.hid cAnd2
  replace cOr := Lib.hid cOr
  replace cOr2 := Lib.hid cOr2
  replace cOrL := Lib.hid cOrL
  replace cMeetsL' := Lib.hid cMeetsL'
  replace cMeets := Lib.hid cMeets
  replace cIn := Lib.hid cIn
  replace cCO := Lib.hid cCO
  replace cCA := Lib.hid cCA
  replace cCa := Lib.hid cCa
  replace cCb := Lib.hid cCb
  replace cNa := Lib.hid cNa
  replace cNb := Lib.hid cNb
  replace cNo := Lib.hid cNo
  replace cNN := Lib.hid cNN
  replace cNA := Lib.hid cNA
  replace cCN := Lib.hid cCN
  go_enter Tryd.func5, Tryd.ntmps5
  go_wp2_with fail
  refine hA.out.mono ?_
  rintro e W ⟨rfl, hB⟩
  have hTW := hT.out.belowAll hB
  clear hA hT
  go_wp2_with fail
  refine (callsIn_wide.1 (mnums_in 9 (by omega) a ha W hTW)).mono ?_
  rintro e W1 ⟨v, rfl, hrow, hB1⟩
  have hI := Ints.of_own hrow
  have hle : (asInts (nums a)).length ≤ 64 := by have := nums_le a; simpa [asInts] using this
  have hB' := hB.trans (hB1.mono hB.size)
  have cOf := of_list v _ (by omega) W1 hI
  rw [of_nums ha] at cOf
  obtain ⟨va, vc, rfl⟩ := hI.len
  clear hI hrow hB hB1 hTW
  generalize (asInts (nums a)).length = len at *
  replace cOf := Lib.hid cOf
  replace hB' := Lib.hid hB'
  cases me <;> cases inn
  all_goals
    go_wp2_with (first | (go_at_call 8; refine (cOf.out).mono ?_; rintro e w' ⟨rfl, rfl⟩) | (go_at_call 31; refine (cLess.out _).mono ?_; rintro e w' ⟨rfl, rfl⟩) | (go_at_call 32; first | (with_reducible refine (cAnd.out _).mono ?_; rintro e w' ⟨rfl, rfl⟩) | (with_reducible refine (cAnd2.out _).mono ?_; rintro e w' ⟨rfl, rfl⟩) | (with_reducible refine (cNA.out _).mono ?_; rintro e w' ⟨rfl, rfl⟩)) | (go_at_call 33; first | (with_reducible refine (cOr.out _).mono ?_; rintro e w' ⟨rfl, rfl⟩) | (with_reducible refine (cOr2.out _).mono ?_; rintro e w' ⟨rfl, rfl⟩) | (with_reducible refine (cOrL.out _).mono ?_; rintro e w' ⟨rfl, rfl⟩)) | (go_at_call 34; first | (with_reducible refine (cMeetsL'.out _).mono ?_; rintro e w' ⟨rfl, rfl⟩) | (with_reducible refine (cMeets.out _).mono ?_; rintro e w' ⟨rfl, rfl⟩)) | (go_at_call 35; refine (cIn.out _).mono ?_; rintro e w' ⟨rfl, rfl⟩) | (go_at_call 29; first | (with_reducible refine (cCO.out _).mono ?_; rintro e w' ⟨rfl, rfl⟩) | (with_reducible refine (cCA.out _).mono ?_; rintro e w' ⟨rfl, rfl⟩) | (with_reducible refine (cCa.out _).mono ?_; rintro e w' ⟨rfl, rfl⟩) | (with_reducible refine (cCb.out _).mono ?_; rintro e w' ⟨rfl, rfl⟩) | (with_reducible refine (cCN.out _).mono ?_; rintro e w' ⟨rfl, rfl⟩)) | (go_at_call 25; first | (with_reducible refine (cNa.out _).mono ?_; rintro e w' ⟨rfl, rfl⟩) | (with_reducible refine (cNb.out _).mono ?_; rintro e w' ⟨rfl, rfl⟩) | (with_reducible refine (cNo.out _).mono ?_; rintro e w' ⟨rfl, rfl⟩) | (with_reducible refine (cNN.out _).mono ?_; rintro e w' ⟨rfl, rfl⟩)))
    go_ret
    exact ⟨rfl, hB'.out⟩
end Go.Proofs.YtmmhcfbnelggfaaDoor
