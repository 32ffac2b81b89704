/- The walk of CheckedPairs: sums, products and quotients of any two numbers are exact, or say why not. -/
import Derived.Test.YtacmheeodhjlbaaRef
namespace Go.Proofs.Ytacmheeodhjlbaa
open Go.RowKit Go.WideShapes

theorem div_tup (a b : Int) : ∃ x y, toldDiv a b = .tuple #[.int .i64 x, .int .i64 y] := by
  unfold toldDiv
  split
  · exact ⟨_, _, rfl⟩
  · exact told_tup _
theorem rem_tup (a b : Int) : ∃ x y, toldRem a b = .tuple #[.int .i64 x, .int .i64 y] := by
  unfold toldRem
  split
  · exact ⟨_, _, rfl⟩
  · exact ⟨_, _, rfl⟩
set_option maxRecDepth 100000 in
set_option maxHeartbeats 8000000 in
theorem pairs_any (a b : Int) (ha : InR a) (hb : InR b) (w : World) : Calls Try.prog 4 #[.int .i64 a, .int .i64 b] w fun e w' => e = .returned (.bool true) ∧ Below w.heap.size w w' := by
  have cAdd := fun w => add_any a b ha hb w
  have rAdd := fun w => refAdd_any a b ha hb w
  obtain ⟨xAdd, yAdd, hAdd⟩ := told_tup (a + b)
  rw [hAdd] at cAdd rAdd
  clear hAdd
  replace cAdd := Lib.hid cAdd
  replace rAdd := Lib.hid rAdd
  have cSub := fun w => sub_any a b ha hb w
  have rSub := fun w => refSub_any a b ha hb w
  rw [show a + -b = a - b by omega] at rSub
  obtain ⟨xSub, ySub, hSub⟩ := told_tup (a - b)
  rw [hSub] at cSub rSub
  clear hSub
  replace cSub := Lib.hid cSub
  replace rSub := Lib.hid rSub
  have cMul := fun w => mul_any a b ha hb w
  have rMul := fun w => refMul_any a b ha hb w
  obtain ⟨xMul, yMul, hMul⟩ := told_tup (a * b)
  rw [hMul] at cMul rMul
  clear hMul
  replace cMul := Lib.hid cMul
  replace rMul := Lib.hid rMul
  have cNeg := fun w => neg_any a ha w
  have rNeg := fun w => refNeg_any a ha w
  obtain ⟨xNeg, yNeg, hNeg⟩ := told_tup (-a)
  rw [hNeg] at cNeg rNeg
  clear hNeg
  replace cNeg := Lib.hid cNeg
  replace rNeg := Lib.hid rNeg
  have cDiv := fun w => div_any a b ha hb w
  have rDiv := fun w => refDiv_any a b ha hb w
  obtain ⟨xDiv, yDiv, hDiv⟩ := div_tup a b
  rw [hDiv] at cDiv rDiv
  clear hDiv
  replace cDiv := Lib.hid cDiv
  replace rDiv := Lib.hid rDiv
  have cRem := fun w => rem_any a b hb w
  have rRem := fun w => refRem_any a b ha hb w
  obtain ⟨xRem, yRem, hRem⟩ := rem_tup a b
  rw [hRem] at cRem rRem
  clear hRem
  replace cRem := Lib.hid cRem
  replace rRem := Lib.hid rRem
  have hB := Lib.hid (Below.refl w.heap.size w)
  go_enter Try.func4, Try.ntmps4
  go_wp2_with fail
  refine (cAdd.out _).mono ?_
  rintro e w1 ⟨rfl, rfl⟩
  go_wp2_with fail
  refine (rAdd.out _).mono ?_
  rintro e w2 ⟨rfl, hb2⟩
  replace hB := Lib.hid (hB.out.trans (hb2.mono hB.out.size))
  clear hb2
  go_wp2_with fail
  refine (cSub.out _).mono ?_
  rintro e w1 ⟨rfl, rfl⟩
  go_wp2_with fail
  refine (rSub.out _).mono ?_
  rintro e w2 ⟨rfl, hb2⟩
  replace hB := Lib.hid (hB.out.trans (hb2.mono hB.out.size))
  clear hb2
  go_wp2_with fail
  refine (cMul.out _).mono ?_
  rintro e w1 ⟨rfl, rfl⟩
  go_wp2_with fail
  refine (rMul.out _).mono ?_
  rintro e w2 ⟨rfl, hb2⟩
  replace hB := Lib.hid (hB.out.trans (hb2.mono hB.out.size))
  clear hb2
  go_wp2_with fail
  refine (cNeg.out _).mono ?_
  rintro e w1 ⟨rfl, rfl⟩
  go_wp2_with fail
  refine (rNeg.out _).mono ?_
  rintro e w2 ⟨rfl, hb2⟩
  replace hB := Lib.hid (hB.out.trans (hb2.mono hB.out.size))
  clear hb2
  go_wp2_with fail
  refine (cDiv.out _).mono ?_
  rintro e w1 ⟨rfl, rfl⟩
  go_wp2_with fail
  refine (rDiv.out _).mono ?_
  rintro e w2 ⟨rfl, rfl⟩
  go_wp2_with fail
  refine (cRem.out _).mono ?_
  rintro e w1 ⟨rfl, rfl⟩
  go_wp2_with fail
  refine (rRem.out _).mono ?_
  rintro e w2 ⟨rfl, rfl⟩
  go_wp2_with fail
  go_ret
  exact ⟨rfl, hB.out⟩
end Go.Proofs.Ytacmheeodhjlbaa
