/- CheckedBack: for every input the law returns true (what is added can be taken away, and what is divided put together again); each argument reads behind the call as it read before. No condition. -/
import Derived.Test.YtacmheeodhjlbaaPCheckedBackx3
namespace Go.Proofs.Ytacmheeodhjlbaa.Pure
open Go.RowKit Go.Proofs.Ytacmheeodhjlbaa.PCheckedBack Go.Proofs.YtacmheeodhjlbaaW.PrintWords Go.Proofs.YtacmheeodhjlbaaW.PrintLast
set_option linter.unusedVariables false
set_option linter.unusedSimpArgs false

theorem wf_bounds {a : Int} (h : (Lit.int .i64 a).wf = true) : -9223372036854775808 ≤ a ∧ a ≤ 9223372036854775807 := by
  simpa [Lit.wf, IntKind.min, IntKind.max, IntKind.signed, IntKind.bits] using h
theorem wrap_id {a : Int} (h1 : -9223372036854775808 ≤ a) (h2 : a ≤ 9223372036854775807) : wrap64 a = a := by
  unfold wrap64; omega
/-- A number that is within 64 bits, or the error 30. -/
def fit (a : Int) : Int × Int := if -9223372036854775808 ≤ a ∧ a ≤ 9223372036854775807 then (a, 0) else (0, 30)
theorem fit_in {a : Int} (h1 : -9223372036854775808 ≤ a) (h2 : a ≤ 9223372036854775807) : fit a = (a, 0) := if_pos ⟨h1, h2⟩
theorem fit_out {a : Int} (h : a < -9223372036854775808 ∨ 9223372036854775807 < a) : fit a = (0, 30) := if_neg (by omega)

theorem add_eq {a b : Int} (a1 : -9223372036854775808 ≤ a) (a2 : a ≤ 9223372036854775807) (b1 : -9223372036854775808 ≤ b) (b2 : b ≤ 9223372036854775807) : checked_Add.f a b = some (fit (a + b)) := by
  unfold checked_Add.f
  by_cases hw : -9223372036854775808 ≤ a + b ∧ a + b ≤ 9223372036854775807
  · rw [wrap_id hw.1 hw.2, fit_in hw.1 hw.2]
    by_cases hb : b = 0
    · simp [hb]
    · have e : (decide (a + b > a) != decide (b > 0)) = false := by
        rw [bne_eq_false_iff_eq]; exact decide_eq_decide.2 (by omega)
      rw [e]; simp
  · rw [fit_out (by omega)]
    have hb : ¬ b = 0 := by omega
    have e : (decide (wrap64 (a + b) > a) != decide (b > 0)) = true := by
      rw [bne_iff_ne, ne_eq, decide_eq_decide]; unfold wrap64; omega
    rw [e]; simp [hb]
theorem sub_eq {a b : Int} (a1 : -9223372036854775808 ≤ a) (a2 : a ≤ 9223372036854775807) (b1 : -9223372036854775808 ≤ b) (b2 : b ≤ 9223372036854775807) : checked_Sub.f a b = some (fit (a - b)) := by
  unfold checked_Sub.f
  by_cases hw : -9223372036854775808 ≤ a - b ∧ a - b ≤ 9223372036854775807
  · rw [wrap_id hw.1 hw.2, fit_in hw.1 hw.2]
    by_cases hb : b = 0
    · simp [hb]
    · have e : (decide (a - b < a) != decide (b > 0)) = false := by
        rw [bne_eq_false_iff_eq]; exact decide_eq_decide.2 (by omega)
      rw [e]; simp
  · rw [fit_out (by omega)]
    have hb : ¬ b = 0 := by omega
    have e : (decide (wrap64 (a - b) < a) != decide (b > 0)) = true := by
      rw [bne_iff_ne, ne_eq, decide_eq_decide]; unfold wrap64; omega
    rw [e]; simp [hb]
theorem neg_eq {a : Int} (a1 : -9223372036854775808 ≤ a) (a2 : a ≤ 9223372036854775807) : checked_Neg.f a = some (fit (-a)) := by
  unfold checked_Neg.f
  rw [sub_eq (by omega) (by omega) a1 a2]
  simp
theorem mask32 {x : Int} (h : 0 ≤ x) (h' : x < 18446744073709551616) : Go.bits .and .u64 x 4294967295 = x % 4294967296 := by
  obtain ⟨n, rfl⟩ := Int.eq_ofNat_of_zero_le h
  have : Go.bits .and .u64 (n : Int) ((4294967295 : Nat) : Int) = ((n &&& 4294967295 : Nat) : Int) := bits_and_u64_nat n 4294967295 (by omega) (by omega)
  rw [show (4294967295 : Int) = ((4294967295 : Nat) : Int) from rfl, this, show n &&& 4294967295 = n % 4294967296 from Nat.and_two_pow_sub_one_eq_mod n 32]
  omega
theorem mul_bd {a b : Int} (a1 : 0 ≤ a) (a2 : a < 4294967296) (b1 : 0 ≤ b) (b2 : b < 4294967296) : 0 ≤ a * b ∧ a * b ≤ 18446744065119617025 := by
  constructor
  · exact Int.mul_nonneg a1 b1
  · have h := Int.mul_le_mul (show a ≤ 4294967295 by omega) (show b ≤ 4294967295 by omega) b1 (by omega)
    simpa using h
theorem mul64_eq {x y : Int} (x1 : 0 ≤ x) (x2 : x < 18446744073709551616) (y1 : 0 ≤ y) (y2 : y < 18446744073709551616) : bits_Mul64.f x y = some (x * y / 18446744073709551616, x * y % 18446744073709551616) := by
  unfold bits_Mul64.f
  rw [mask32 x1 x2, mask32 y1 y2]
  obtain ⟨xh, hxh⟩ : ∃ v, x / 4294967296 = v := ⟨_, rfl⟩
  obtain ⟨xl, hxl⟩ : ∃ v, x % 4294967296 = v := ⟨_, rfl⟩
  obtain ⟨yh, hyh⟩ : ∃ v, y / 4294967296 = v := ⟨_, rfl⟩
  obtain ⟨yl, hyl⟩ : ∃ v, y % 4294967296 = v := ⟨_, rfl⟩
  have ex : x = xh * 4294967296 + xl := by omega
  have ey : y = yh * 4294967296 + yl := by omega
  have exy : x * y = xh * yh * 18446744073709551616 + (xh * yl + xl * yh) * 4294967296 + xl * yl := by
    rw [ex, ey, Int.add_mul, Int.mul_add, Int.mul_add]
    have e1 : xh * 4294967296 * (yh * 4294967296) = xh * yh * 18446744073709551616 := by
      rw [Int.mul_assoc, Int.mul_left_comm 4294967296 yh, ← Int.mul_assoc]; rfl
    have e2 : xh * 4294967296 * yl = xh * yl * 4294967296 := by rw [Int.mul_assoc, Int.mul_comm 4294967296 yl, ← Int.mul_assoc]
    have e3 : xl * (yh * 4294967296) = xl * yh * 4294967296 := by rw [← Int.mul_assoc]
    rw [e1, e2, e3, Int.add_mul]; omega
  have p1 := mul_bd (a := xh) (b := yh) (by omega) (by omega) (by omega) (by omega)
  have p2 := mul_bd (a := xh) (b := yl) (by omega) (by omega) (by omega) (by omega)
  have p3 := mul_bd (a := xl) (b := yh) (by omega) (by omega) (by omega) (by omega)
  have p4 := mul_bd (a := xl) (b := yl) (by omega) (by omega) (by omega) (by omega)
  rw [hxh, hxl, hyh, hyl, exy]
  generalize xh * yh = A at *
  generalize xh * yl = B at *
  generalize xl * yh = C at *
  generalize xl * yl = D at *
  clear hxh hxl hyh hyl ex ey exy
  simp only [IntKind.wrap_u64]
  rw [Int.emod_eq_of_lt (a := A) (by omega) (by omega), Int.emod_eq_of_lt (a := B) (by omega) (by omega), Int.emod_eq_of_lt (a := C) (by omega) (by omega), Int.emod_eq_of_lt (a := D) (by omega) (by omega)]
  rw [Int.emod_eq_of_lt (a := B + D / 4294967296) (by omega) (by omega)]
  rw [mask32 (by omega) (by omega)]
  rw [Int.emod_eq_of_lt (a := (B + D / 4294967296) % 4294967296 + C) (by omega) (by omega)]
  rw [Int.emod_eq_of_lt (a := A + (B + D / 4294967296) / 4294967296) (by omega) (by omega)]
  congr 2
  omega
theorem size_eq {a : Int} (a1 : -9223372036854775808 ≤ a) (a2 : a ≤ 9223372036854775807) : checked_size.f a = some (a.natAbs : Int) := by
  unfold checked_size.f
  split
  · rw [IntKind.wrap_u64, IntKind.wrap_u64]; congr 1; omega
  · rw [IntKind.wrap_u64]; congr 1; omega
theorem signed_eq {n : Int} {b : Bool} {k : Nat} (n1 : 0 ≤ n) (n2 : n < 18446744073709551616) (hb : b = true → 0 < n) : checked_signed.f (k + 1) n b = some (fit (if b then -n else n)) := by
  unfold checked_signed.f
  cases b
  · simp only [Bool.false_eq_true, if_false]
    simp only [checked_signed.j0, Bool.false_eq_true, if_false, if_true]
    split
    · rw [fit_out (by omega)]
    · rw [fit_in (by omega) (by omega), wrap_id (by omega) (by omega)]
  · have := hb rfl
    simp only [if_true]
    simp only [checked_signed.j0, Bool.false_eq_true, if_false, if_true]
    split
    · rw [fit_out (by omega)]
    · rw [fit_in (by omega) (by omega), IntKind.wrap_u64]
      congr 2
      unfold wrap64; omega
theorem mul_eq {a b : Int} {k : Nat} (a1 : -9223372036854775808 ≤ a) (a2 : a ≤ 9223372036854775807) (b1 : -9223372036854775808 ≤ b) (b2 : b ≤ 9223372036854775807) : checked_Mul.f (k + 1) a b = some (fit (a * b)) := by
  unfold checked_Mul.f
  rw [size_eq a1 a2, size_eq b1 b2]
  simp only [Option.bind_some]
  rw [mul64_eq (by omega) (by omega) (by omega) (by omega)]
  simp only [Option.bind_some]
  have hab : ((a * b).natAbs : Int) = (a.natAbs : Int) * (b.natAbs : Int) := by rw [Int.natAbs_mul]; simp
  have hsgn : a * b = if decide (a < 0) != decide (b < 0) then -((a * b).natAbs : Int) else ((a * b).natAbs : Int) := by
    rcases Int.lt_or_le a 0 with ha | ha <;> rcases Int.lt_or_le b 0 with hb | hb
    · have := Int.mul_nonneg_of_nonpos_of_nonpos (Int.le_of_lt ha) (Int.le_of_lt hb)
      simp only [ha, hb, decide_true, bne_self_eq_false, Bool.false_eq_true, if_false]; omega
    · have := Int.mul_nonpos_of_nonpos_of_nonneg (Int.le_of_lt ha) hb
      simp only [ha, show ¬ b < 0 by omega, decide_true, decide_false, Bool.bne_false, if_true]; omega
    · have := Int.mul_nonpos_of_nonneg_of_nonpos ha (Int.le_of_lt hb)
      simp only [show ¬ a < 0 by omega, hb, decide_true, decide_false, Bool.bne_true, Bool.not_false, if_true]; omega
    · have := Int.mul_nonneg ha hb
      simp only [show ¬ a < 0 by omega, show ¬ b < 0 by omega, decide_false, bne_self_eq_false, Bool.false_eq_true, if_false]; omega
  rw [← hab]
  generalize (decide (a < 0) != decide (b < 0)) = s at *
  generalize a * b = p at *
  clear hab
  by_cases hbig : (p.natAbs : Int) / 18446744073709551616 > 0
  · rw [if_pos hbig, fit_out (by omega)]
  · rw [if_neg hbig]
    have hm : (p.natAbs : Int) % 18446744073709551616 = (p.natAbs : Int) := by omega
    rw [hm]
    by_cases h0 : (p.natAbs : Int) > 0
    · rw [if_pos h0, signed_eq (by omega) (by omega) (fun _ => h0), ← hsgn]; simp
    · rw [if_neg h0, signed_eq (by omega) (by omega) (fun h => by cases h)]
      have : p = 0 := by omega
      subst this; simp
theorem awake_eq (k : Nat) : chordmaillaw03_awake.f (k + 1) = some true := by
  unfold chordmaillaw03_awake.f
  rw [add_eq (by omega) (by omega) (by omega) (by omega), mul_eq (by omega) (by omega) (by omega) (by omega)]
  have h1 : checked_Euclid.f (-7) 3 = some (2, 0) := by decide +kernel
  have h2 : checked_Sum.f [4611686018427387904, 4611686018427387904, (-4611686018427387904), (-4611686018427387904), 5] = some (5, 0) := by decide +kernel
  rw [h1, h2]
  decide +kernel
theorem tdiv_facts {a b : Int} (hb : b ≠ 0) : b * Int.tdiv a b + Int.tmod a b = a ∧ (0 ≤ a → 0 ≤ Int.tmod a b ∧ 0 ≤ b * Int.tdiv a b) ∧ (a ≤ 0 → Int.tmod a b ≤ 0 ∧ b * Int.tdiv a b ≤ 0) ∧ Int.tmod a b < b.natAbs ∧ -(b.natAbs : Int) < Int.tmod a b := by
  have pos : ∀ x : Int, 0 ≤ x → 0 ≤ Int.tmod x b ∧ Int.tmod x b < b.natAbs ∧ 0 ≤ b * Int.tdiv x b := fun x hx => by
    rw [Int.tmod_eq_emod_of_nonneg hx]
    refine ⟨Int.emod_nonneg x hb, Int.emod_lt x hb, ?_⟩
    have h := Int.emod_add_mul_ediv x b
    rcases Int.lt_or_le b 0 with h | h
    · have : Int.tdiv x b ≤ 0 := Int.tdiv_nonpos_of_nonneg_of_nonpos hx (by omega)
      exact Int.mul_nonneg_of_nonpos_of_nonpos (by omega) this
    · exact Int.mul_nonneg h (Int.tdiv_nonneg hx h)
  refine ⟨Int.mul_tdiv_add_tmod a b, fun h => ⟨(pos a h).1, (pos a h).2.2⟩, fun h => ?_, ?_, ?_⟩
  · obtain ⟨p1, _, p3⟩ := pos (-a) (by omega)
    rw [Int.neg_tmod] at p1
    rw [Int.neg_tdiv, Int.mul_neg] at p3
    omega
  · rcases Int.lt_or_le a 0 with h | h
    · obtain ⟨p1, _, _⟩ := pos (-a) (by omega)
      rw [Int.neg_tmod] at p1
      omega
    · exact (pos a h).2.1
  · rcases Int.lt_or_le a 0 with h | h
    · obtain ⟨_, p1, _⟩ := pos (-a) (by omega)
      rw [Int.neg_tmod] at p1
      omega
    · have := (pos a h).1
      omega
theorem parts_j0 {a b q r : Int} {k : Nat} (a1 : -9223372036854775808 ≤ a) (a2 : a ≤ 9223372036854775807) (b1 : -9223372036854775808 ≤ b) (b2 : b ≤ 9223372036854775807) (hb : b ≠ 0)
    (q1 : -9223372036854775808 ≤ q) (q2 : q ≤ 9223372036854775807) (hq : q * b + r = a) (h1 : 0 ≤ a → 0 ≤ r ∧ 0 ≤ q * b) (h2 : a ≤ 0 → r ≤ 0 ∧ q * b ≤ 0) (h3 : r < b.natAbs) (h4 : -(b.natAbs : Int) < r) :
    chordmaillaw03_parts.j0 (k + 2) a b q 0 r false = some true := by
  simp only [chordmaillaw03_parts.j0]
  rw [if_neg (by simp), if_pos trivial, mul_eq q1 q2 b1 b2]
  rw [fit_in (a := q * b) (by omega) (by omega)]
  simp only [Option.bind_some]
  rw [add_eq (by omega) (by omega) (by omega) (by omega), hq, fit_in a1 a2]
  simp only [Option.bind_some, if_true]
  by_cases r0 : r = 0
  · simp [r0]
  · by_cases hb0 : b > 0
    · have e2 : r > wrap64 (-b) := by rw [wrap_id (a := -b) (by omega) (by omega)]; omega
      have e1 : r < b := by omega
      simp [r0, hb0, e1, e2]
    · have hb1 : b < 0 := by omega
      by_cases hr : r < 0
      · have e1 : r > b := by omega
        simp [r0, hb0, hb1, hr, e1]
      · have e1 : r > b := by omega
        have e2 : r > 0 := by omega
        by_cases hm : b = -9223372036854775808
        · by_cases e3 : r < wrap64 (-b)
          · simp [r0, hb0, hb1, hr, e1, e2, e3]
          · simp [r0, hb0, hb1, hr, e1, e2, e3]; exact hm
        · have e3 : r < wrap64 (-b) := by rw [wrap_id (a := -b) (by omega) (by omega)]; omega
          simp [r0, hb0, hb1, hr, e1, e2, e3]
theorem parts_eq {a b : Int} {k : Nat} (a1 : -9223372036854775808 ≤ a) (a2 : a ≤ 9223372036854775807) (b1 : -9223372036854775808 ≤ b) (b2 : b ≤ 9223372036854775807) :
    chordmaillaw03_parts.f (k + 2) a b = some true := by
  unfold chordmaillaw03_parts.f checked_Div.f checked_Rem.f
  by_cases hb : b = 0
  · simp [hb]
  · rw [if_neg hb, if_neg hb]
    by_cases hm : b = -1
    · rw [if_pos hm, if_pos hm, neg_eq a1 a2]
      simp only [Option.bind_some]
      rw [if_neg hb, if_pos trivial, if_pos trivial]
      by_cases ha : a = -9223372036854775808
      · subst ha; subst hm
        rw [fit_out (by omega)]
        simp [chordmaillaw03_parts.j0]
      · rw [fit_in (by omega) (by omega)]
        dsimp only
        subst hm
        exact parts_j0 a1 a2 b1 b2 hb (by omega) (by omega) (by omega) (by intro h; omega) (by intro h; omega) (by omega) (by omega)
    · rw [if_neg hm, if_neg hm]
      simp only [Option.bind_some]
      rw [if_neg hb, if_pos trivial]
      obtain ⟨f1, f2, f3, f4, f5⟩ := tdiv_facts (a := a) hb
      have hqb : -9223372036854775808 ≤ Int.tdiv a b ∧ Int.tdiv a b ≤ 9223372036854775807 := by
        have h := Int.natAbs_tdiv_le_natAbs a b
        by_cases hb1 : b = 1
        · subst hb1; rw [Int.tdiv_one]; omega
        · by_cases hmin : a = -9223372036854775808
          · subst hmin
            have h2 : (Int.tdiv (-9223372036854775808) b).natAbs ≤ 4611686018427387904 := by
              rw [Int.natAbs_tdiv]
              have e : (-9223372036854775808 : Int).natAbs = 9223372036854775808 := rfl
              rw [e]
              exact Nat.le_trans (Nat.div_le_div_left (show 2 ≤ b.natAbs by omega) (by omega)) (by omega)
            omega
          · omega
      rw [wrap_id hqb.1 hqb.2]
      rw [Int.mul_comm] at f1 f2 f3
      have fin := parts_j0 (k := k) a1 a2 b1 b2 hb hqb.1 hqb.2 f1 f2 f3 f4 f5
      by_cases hr : Int.tmod a b = 0
      · rw [if_pos hr]; exact fin
      · rw [if_neg hr]
        have e : (decide (Int.tmod a b < 0) != decide (a < 0)) = false := by
          rw [bne_eq_false_iff_eq]; refine decide_eq_decide.2 ?_
          constructor
          · intro h
            rcases Int.lt_or_le a 0 with h' | h'
            · exact h'
            · have := (f2 h').1; omega
          · intro h
            have := (f3 (by omega)).1; omega
        rw [e]; exact fin
theorem CheckedBack : chordmaillaw03_CheckedBack.Pure := by
  intro a b ha hb
  obtain ⟨a1, a2⟩ := wf_bounds ha
  obtain ⟨b1, b2⟩ := wf_bounds hb
  refine ⟨9, ?_⟩
  have j3 : chordmaillaw03_CheckedBack.j3 5 a b = some true := by
    simp only [chordmaillaw03_CheckedBack.j3]
    rw [neg_eq a1 a2, parts_eq (k := 2) a1 a2 b1 b2]
    simp only [Option.bind_some]
    by_cases h : a = -9223372036854775808
    · rw [fit_out (by omega)]; simp
    · rw [fit_in (by omega) (by omega)]
      simp only [if_true]
      rw [neg_eq (by omega) (by omega), fit_in (by omega) (by omega)]
      simp
  have j2 : ∀ x c, (c = true → x = a * b ∧ b ≠ 0 ∧ -9223372036854775808 ≤ x ∧ x ≤ 9223372036854775807) → chordmaillaw03_CheckedBack.j2 6 a b x c = some true := by
    intro x c hc
    simp only [chordmaillaw03_CheckedBack.j2]
    cases c
    · simp [j3]
    · obtain ⟨hx, hb0, x1, x2⟩ := hc rfl
      rw [if_pos rfl]
      unfold checked_Div.f checked_Rem.f
      rw [if_neg hb0, if_neg hb0]
      by_cases hm : b = -1
      · rw [if_pos hm, if_pos hm, neg_eq x1 x2]
        simp only [Option.bind_some]
        subst hm
        rw [fit_in (by omega) (by omega)]
        dsimp only
        rw [if_pos rfl, if_pos trivial, if_pos (by omega), if_pos trivial]
        exact j3
      · rw [if_neg hm, if_neg hm]
        simp only [Option.bind_some]
        rw [hx, Int.mul_tdiv_cancel _ hb0, Int.mul_tmod_left, wrap_id a1 a2]
        simp [j3]
  have j1 : chordmaillaw03_CheckedBack.j1 7 a b = some true := by
    simp only [chordmaillaw03_CheckedBack.j1]
    rw [mul_eq a1 a2 b1 b2]
    simp only [Option.bind_some]
    by_cases h : -9223372036854775808 ≤ a * b ∧ a * b ≤ 9223372036854775807
    · rw [fit_in h.1 h.2]
      dsimp only
      rw [if_pos rfl]
      exact j2 _ _ fun hb0 => ⟨rfl, by simpa using hb0, h.1, h.2⟩
    · rw [fit_out (by omega), if_neg (by simp)]
      exact j2 _ _ fun hb0 => by cases hb0
  have j0 : chordmaillaw03_CheckedBack.j0 8 a b = some true := by
    simp only [chordmaillaw03_CheckedBack.j0]
    rw [sub_eq a1 a2 b1 b2, j1]
    simp only [Option.bind_some]
    by_cases h : -9223372036854775808 ≤ a - b ∧ a - b ≤ 9223372036854775807
    · rw [fit_in h.1 h.2]
      dsimp only
      rw [if_pos rfl, add_eq h.1 h.2 b1 b2, fit_in (by omega) (by omega)]
      simp only [Option.bind_some, if_true]
      rw [if_pos (by omega)]
    · rw [fit_out (by omega), if_neg (by simp)]
  unfold chordmaillaw03_CheckedBack.f
  have hj0 : chordmaillaw03_CheckedBack.j0 9 a b = some true := chordmaillaw03_CheckedBack.mono_l 8 |>.1 _ _ _ j0
  rw [awake_eq, add_eq a1 a2 b1 b2, hj0]
  simp only [Option.bind_some, if_true]
  by_cases h : -9223372036854775808 ≤ a + b ∧ a + b ≤ 9223372036854775807
  · rw [fit_in h.1 h.2]
    dsimp only
    rw [if_pos rfl, sub_eq h.1 h.2 b1 b2, fit_in (by omega) (by omega)]
    simp only [Option.bind_some, if_true]
    rw [if_pos (by omega)]
  · rw [fit_out (by omega), if_neg (by simp)]

end Go.Proofs.Ytacmheeodhjlbaa.Pure
