/- The reference's Add, Sub, Mul, Neg. -/
import Derived.Test.YtacmheeodhjlbaaMul
namespace Go.Proofs.Ytacmheeodhjlbaa
open Go.RowKit Go.WideShapes

theorem mul_below (x y : Int) : decide (x * y < 0) = (decide (0 < (digs (x.natAbs * y.natAbs)).length) && (decide (x < 0) != decide (y < 0))) := by
  have h := digs_nil (x.natAbs * y.natAbs)
  generalize (digs (x.natAbs * y.natAbs)).length = n at *
  have e := mul_split x y
  by_cases hz : x.natAbs * y.natAbs = 0
  · rw [hz] at e h
    have : x * y = 0 := by rw [e]; split <;> rfl
    rw [this, decide_eq_false (show ¬ 0 < n by omega)]; rfl
  · rw [decide_eq_true (show 0 < n by omega), Bool.true_and]
    rw [e]
    generalize x.natAbs * y.natAbs = p at *
    cases (decide (x < 0) != decide (y < 0))
    · simp
    · simp; omega
theorem num_mul_any (x y : Int) (hx : (digs x.natAbs).length ≤ 1000) (hy : (digs y.natAbs).length ≤ 1000) (u v : Value) (w : World) (hu : NumAt w u x) (hv : NumAt w v y) :
    Calls Try.prog 37 #[u, v] w fun e w' => ∃ r, e = .returned r ∧ NumNew w.heap.size w' r (x * y) ∧ Below w.heap.size w w' := by
  obtain ⟨s, rfl, hs⟩ := hu
  obtain ⟨t, rfl, ht⟩ := hv
  refine (mul_walk _ _ _ _ hx hy s t w hs ht).mono fun e w' ⟨r, h1, h2, h3⟩ => ⟨_, h1, ⟨r, by rw [mul_below], by rw [Int.natAbs_mul]; exact h2.1, h2.2⟩, h3⟩
theorem small_len {a : Int} (ha : InR a) : (digs a.natAbs).length ≤ 20 := digs_len (by have := natAbs_lt ha; omega)
theorem NumNew.keep {B : Nat} {w w' : World} {v : Value} {z : Int} (h : NumNew B w v z) (hB : Below w.heap.size w w') : NumAt w' v z := h.at.below hB
theorem mul_len {a b : Int} (ha : InR a) (hb : InR b) : (a * b).natAbs < 10 ^ 100 := by
  rw [Int.natAbs_mul]
  exact Nat.lt_of_le_of_lt (Nat.mul_le_mul (natAbs_lt ha) (natAbs_lt hb)) (by omega)
set_option maxRecDepth 100000 in
set_option maxHeartbeats 8000000 in
theorem refAdd_any (a b : Int) (ha : InR a) (hb : InR b) (w : World) : Calls Try.prog 12 #[.int .i64 a, .int .i64 b] w fun e w' => e = .returned (told (a + b)) ∧ Below w.heap.size w w' := by
  have la := small_len ha
  have lb := small_len hb
  have hO1 := Lib.hid (fun w => of_any a ha w)
  have hO2 := Lib.hid (fun w => of_any b hb w)
  have hI := Lib.hid (fun v w h => num_int_any (a + b) (digs_len (N := 100) (by have := natAbs_lt ha; have := natAbs_lt hb; omega) |> fun h => Nat.le_trans h (by omega)) v w h)
  have hA := Lib.hid (fun u v w h1 h2 => num_add_any a b 20 (by omega) la lb u v w h1 h2)
  obtain ⟨x, y, ht⟩ := told_tup (a + b)
  rw [ht] at hI ⊢
  clear ht
  go_enter Try.func12, Try.ntmps12
  go_wp2_with fail
  refine (hO1.out _).mono ?_
  rintro e w1 ⟨u1, rfl, n1, b1⟩
  have m1 := Lib.hid n1.at
  replace b1 := Lib.hid b1
  clear n1
  go_wp2_with fail
  refine (hO2.out _).mono ?_
  rintro e w2 ⟨u2, rfl, n2, b2⟩
  have k1 := Lib.hid (m1.out.below b2)
  have k2 := Lib.hid n2.at
  replace b2 := Lib.hid (b1.out.trans (b2.mono b1.out.size))
  clear n2 m1 b1
  go_wp2_with fail
  refine (hA.out _ _ _ k1.out k2.out).mono ?_
  rintro e w4 ⟨u4, rfl, n4, b4⟩
  replace b4 := Lib.hid (b2.out.trans (b4.mono b2.out.size))
  replace n4 := Lib.hid n4.at
  go_wp2_with fail
  refine (hI.out _ _ n4.out).mono ?_
  rintro e w5 ⟨rfl, b5⟩
  replace b5 := Lib.hid (b4.out.trans (b5.mono b4.out.size))
  go_wp2_with fail
  go_ret2
  exact ⟨rfl, b5.out⟩
set_option maxRecDepth 100000 in
set_option maxHeartbeats 8000000 in
theorem refSub_any (a b : Int) (ha : InR a) (hb : InR b) (w : World) : Calls Try.prog 14 #[.int .i64 a, .int .i64 b] w fun e w' => e = .returned (told (a + -b)) ∧ Below w.heap.size w w' := by
  have la := small_len ha
  have lb := small_len hb
  have hO1 := Lib.hid (fun w => of_any a ha w)
  have hO2 := Lib.hid (fun w => of_any b hb w)
  have hI := Lib.hid (fun v w h => num_int_any (a + -b) (digs_len (N := 100) (by have := natAbs_lt ha; have := natAbs_lt hb; omega) |> fun h => Nat.le_trans h (by omega)) v w h)
  have hN := Lib.hid (fun v w h => num_neg_any b v w h)
  have lb' : (digs (-b).natAbs).length ≤ 20 := by rw [Int.natAbs_neg]; exact lb
  have hA := Lib.hid (fun u v w h1 h2 => num_add_any a (-b) 20 (by omega) la lb' u v w h1 h2)
  obtain ⟨x, y, ht⟩ := told_tup (a + -b)
  rw [ht] at hI ⊢
  clear ht
  go_enter Try.func14, Try.ntmps14
  go_wp2_with fail
  refine (hO1.out _).mono ?_
  rintro e w1 ⟨u1, rfl, n1, b1⟩
  have m1 := Lib.hid n1.at
  replace b1 := Lib.hid b1
  clear n1
  go_wp2_with fail
  refine (hO2.out _).mono ?_
  rintro e w2 ⟨u2, rfl, n2, b2⟩
  have k1 := Lib.hid (m1.out.below b2)
  have k2 := Lib.hid n2.at
  replace b2 := Lib.hid (b1.out.trans (b2.mono b1.out.size))
  clear n2 m1 b1
  go_wp2_with fail
  refine (hN.out _ _ k2.out).mono ?_
  rintro e w3 ⟨u3, rfl, n3, b3⟩
  have k3 := Lib.hid (k1.out.below b3)
  have k4 := Lib.hid n3
  replace b3 := Lib.hid (b2.out.trans (b3.mono b2.out.size))
  clear n3 k1 k2 b2
  go_wp2_with fail
  refine (hA.out _ _ _ k3.out k4.out).mono ?_
  rintro e w4 ⟨u4, rfl, n4, b4⟩
  replace b4 := Lib.hid (b3.out.trans (b4.mono b3.out.size))
  replace n4 := Lib.hid n4.at
  go_wp2_with fail
  refine (hI.out _ _ n4.out).mono ?_
  rintro e w5 ⟨rfl, b5⟩
  replace b5 := Lib.hid (b4.out.trans (b5.mono b4.out.size))
  go_wp2_with fail
  go_ret2
  exact ⟨rfl, b5.out⟩
set_option maxRecDepth 100000 in
set_option maxHeartbeats 8000000 in
theorem refMul_any (a b : Int) (ha : InR a) (hb : InR b) (w : World) : Calls Try.prog 16 #[.int .i64 a, .int .i64 b] w fun e w' => e = .returned (told (a * b)) ∧ Below w.heap.size w w' := by
  have la := small_len ha
  have lb := small_len hb
  have hO1 := Lib.hid (fun w => of_any a ha w)
  have hO2 := Lib.hid (fun w => of_any b hb w)
  have hI := Lib.hid (fun v w h => num_int_any (a * b) (digs_len (N := 100) (mul_len ha hb) |> fun h => Nat.le_trans h (by omega)) v w h)
  have hA := Lib.hid (fun u v w h1 h2 => num_mul_any a b (by omega) (by omega) u v w h1 h2)
  obtain ⟨x, y, ht⟩ := told_tup (a * b)
  rw [ht] at hI ⊢
  clear ht
  go_enter Try.func16, Try.ntmps16
  go_wp2_with fail
  refine (hO1.out _).mono ?_
  rintro e w1 ⟨u1, rfl, n1, b1⟩
  have m1 := Lib.hid n1.at
  replace b1 := Lib.hid b1
  clear n1
  go_wp2_with fail
  refine (hO2.out _).mono ?_
  rintro e w2 ⟨u2, rfl, n2, b2⟩
  have k1 := Lib.hid (m1.out.below b2)
  have k2 := Lib.hid n2.at
  replace b2 := Lib.hid (b1.out.trans (b2.mono b1.out.size))
  clear n2 m1 b1
  go_wp2_with fail
  refine (hA.out _ _ _ k1.out k2.out).mono ?_
  rintro e w4 ⟨u4, rfl, n4, b4⟩
  replace b4 := Lib.hid (b2.out.trans (b4.mono b2.out.size))
  replace n4 := Lib.hid n4.at
  go_wp2_with fail
  refine (hI.out _ _ n4.out).mono ?_
  rintro e w5 ⟨rfl, b5⟩
  replace b5 := Lib.hid (b4.out.trans (b5.mono b4.out.size))
  go_wp2_with fail
  go_ret2
  exact ⟨rfl, b5.out⟩
set_option maxRecDepth 100000 in
set_option maxHeartbeats 8000000 in
theorem refNeg_any (a : Int) (ha : InR a) (w : World) : Calls Try.prog 18 #[.int .i64 a] w fun e w' => e = .returned (told (-a)) ∧ Below w.heap.size w w' := by
  have la := small_len ha
  have hO1 := Lib.hid (fun w => of_any a ha w)
  have hN := Lib.hid (fun v w h => num_neg_any a v w h)
  have hI := Lib.hid (fun v w h => num_int_any (-a) (by rw [Int.natAbs_neg]; omega) v w h)
  obtain ⟨x, y, ht⟩ := told_tup (-a)
  rw [ht] at hI ⊢
  clear ht
  go_enter Try.func18, Try.ntmps18
  go_wp2_with fail
  refine (hO1.out _).mono ?_
  rintro e w1 ⟨u1, rfl, n1, b1⟩
  have m1 := Lib.hid n1.at
  replace b1 := Lib.hid b1
  clear n1
  go_wp2_with fail
  refine (hN.out _ _ m1.out).mono ?_
  rintro e w4 ⟨u4, rfl, n4, b4⟩
  replace b4 := Lib.hid (b1.out.trans (b4.mono b1.out.size))
  replace n4 := Lib.hid n4
  go_wp2_with fail
  refine (hI.out _ _ n4.out).mono ?_
  rintro e w5 ⟨rfl, b5⟩
  replace b5 := Lib.hid (b4.out.trans (b5.mono b4.out.size))
  go_wp2_with fail
  go_ret2
  exact ⟨rfl, b5.out⟩
end Go.Proofs.Ytacmheeodhjlbaa
