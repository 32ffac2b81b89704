/- CheckedPicks: for every input the law returns true (numbers that follow one another have remainders that follow one another); each argument reads behind the call as it read before. No condition. -/
import Derived.Test.YtacmheeodhjlbaaPCheckedPicksx2
namespace Go.Proofs.Ytacmheeodhjlbaa.Pure
open Go.RowKit Go.Proofs.Ytacmheeodhjlbaa.PCheckedPicks Go.Proofs.YtacmheeodhjlbaaW.PrintWords Go.Proofs.YtacmheeodhjlbaaW.PrintLast
set_option linter.unusedVariables false
set_option linter.unusedSimpArgs false

theorem wf_bounds {a : Int} (h : (Lit.int .i64 a).wf = true) : -9223372036854775808 ≤ a ∧ a ≤ 9223372036854775807 := by
  simpa [Lit.wf, IntKind.min, IntKind.max, IntKind.signed, IntKind.bits] using h
theorem wrap_id {a : Int} (h1 : -9223372036854775808 ≤ a) (h2 : a ≤ 9223372036854775807) : wrap64 a = a := by
  unfold wrap64; omega
/-- A number that is within 64 bits, or the error 30. -/
def fit (a : Int) : Int × Int := if -9223372036854775808 ≤ a ∧ a ≤ 9223372036854775807 then (a, 0) else (0, 30)
theorem fit_in {a : Int} (h1 : -9223372036854775808 ≤ a) (h2 : a ≤ 9223372036854775807) : fit a = (a, 0) := if_pos ⟨h1, h2⟩
theorem fit_out {a : Int} (h : a < -9223372036854775808 ∨ 9223372036854775807 < a) : fit a = (0, 30) := if_neg (by omega)

theorem add_eq {a b : Int} (a1 : -9223372036854775808 ≤ a) (a2 : a ≤ 9223372036854775807) (b1 : -9223372036854775808 ≤ b) (b2 : b ≤ 9223372036854775807) : checked_Add.f a b = some (fit (a + b)) := by
  unfold checked_Add.f
  by_cases hw : -9223372036854775808 ≤ a + b ∧ a + b ≤ 9223372036854775807
  · rw [wrap_id hw.1 hw.2, fit_in hw.1 hw.2]
    by_cases hb : b = 0
    · simp [hb]
    · have e : (decide (a + b > a) != decide (b > 0)) = false := by
        rw [bne_eq_false_iff_eq]; exact decide_eq_decide.2 (by omega)
      rw [e]; simp
  · rw [fit_out (by omega)]
    have hb : ¬ b = 0 := by omega
    have e : (decide (wrap64 (a + b) > a) != decide (b > 0)) = true := by
      rw [bne_iff_ne, ne_eq, decide_eq_decide]; unfold wrap64; omega
    rw [e]; simp [hb]
theorem mask32 {x : Int} (h : 0 ≤ x) (h' : x < 18446744073709551616) : Go.bits .and .u64 x 4294967295 = x % 4294967296 := by
  obtain ⟨n, rfl⟩ := Int.eq_ofNat_of_zero_le h
  have : Go.bits .and .u64 (n : Int) ((4294967295 : Nat) : Int) = ((n &&& 4294967295 : Nat) : Int) := bits_and_u64_nat n 4294967295 (by omega) (by omega)
  rw [show (4294967295 : Int) = ((4294967295 : Nat) : Int) from rfl, this, show n &&& 4294967295 = n % 4294967296 from Nat.and_two_pow_sub_one_eq_mod n 32]
  omega
theorem mul_bd {a b : Int} (a1 : 0 ≤ a) (a2 : a < 4294967296) (b1 : 0 ≤ b) (b2 : b < 4294967296) : 0 ≤ a * b ∧ a * b ≤ 18446744065119617025 := by
  constructor
  · exact Int.mul_nonneg a1 b1
  · have h := Int.mul_le_mul (show a ≤ 4294967295 by omega) (show b ≤ 4294967295 by omega) b1 (by omega)
    simpa using h
theorem mul64_eq {x y : Int} (x1 : 0 ≤ x) (x2 : x < 18446744073709551616) (y1 : 0 ≤ y) (y2 : y < 18446744073709551616) : bits_Mul64.f x y = some (x * y / 18446744073709551616, x * y % 18446744073709551616) := by
  unfold bits_Mul64.f
  rw [mask32 x1 x2, mask32 y1 y2]
  obtain ⟨xh, hxh⟩ : ∃ v, x / 4294967296 = v := ⟨_, rfl⟩
  obtain ⟨xl, hxl⟩ : ∃ v, x % 4294967296 = v := ⟨_, rfl⟩
  obtain ⟨yh, hyh⟩ : ∃ v, y / 4294967296 = v := ⟨_, rfl⟩
  obtain ⟨yl, hyl⟩ : ∃ v, y % 4294967296 = v := ⟨_, rfl⟩
  have ex : x = xh * 4294967296 + xl := by omega
  have ey : y = yh * 4294967296 + yl := by omega
  have exy : x * y = xh * yh * 18446744073709551616 + (xh * yl + xl * yh) * 4294967296 + xl * yl := by
    rw [ex, ey, Int.add_mul, Int.mul_add, Int.mul_add]
    have e1 : xh * 4294967296 * (yh * 4294967296) = xh * yh * 18446744073709551616 := by
      rw [Int.mul_assoc, Int.mul_left_comm 4294967296 yh, ← Int.mul_assoc]; rfl
    have e2 : xh * 4294967296 * yl = xh * yl * 4294967296 := by rw [Int.mul_assoc, Int.mul_comm 4294967296 yl, ← Int.mul_assoc]
    have e3 : xl * (yh * 4294967296) = xl * yh * 4294967296 := by rw [← Int.mul_assoc]
    rw [e1, e2, e3, Int.add_mul]; omega
  have p1 := mul_bd (a := xh) (b := yh) (by omega) (by omega) (by omega) (by omega)
  have p2 := mul_bd (a := xh) (b := yl) (by omega) (by omega) (by omega) (by omega)
  have p3 := mul_bd (a := xl) (b := yh) (by omega) (by omega) (by omega) (by omega)
  have p4 := mul_bd (a := xl) (b := yl) (by omega) (by omega) (by omega) (by omega)
  rw [hxh, hxl, hyh, hyl, exy]
  generalize xh * yh = A at *
  generalize xh * yl = B at *
  generalize xl * yh = C at *
  generalize xl * yl = D at *
  clear hxh hxl hyh hyl ex ey exy
  simp only [IntKind.wrap_u64]
  rw [Int.emod_eq_of_lt (a := A) (by omega) (by omega), Int.emod_eq_of_lt (a := B) (by omega) (by omega), Int.emod_eq_of_lt (a := C) (by omega) (by omega), Int.emod_eq_of_lt (a := D) (by omega) (by omega)]
  rw [Int.emod_eq_of_lt (a := B + D / 4294967296) (by omega) (by omega)]
  rw [mask32 (by omega) (by omega)]
  rw [Int.emod_eq_of_lt (a := (B + D / 4294967296) % 4294967296 + C) (by omega) (by omega)]
  rw [Int.emod_eq_of_lt (a := A + (B + D / 4294967296) / 4294967296) (by omega) (by omega)]
  congr 2
  omega
theorem size_eq {a : Int} (a1 : -9223372036854775808 ≤ a) (a2 : a ≤ 9223372036854775807) : checked_size.f a = some (a.natAbs : Int) := by
  unfold checked_size.f
  split
  · rw [IntKind.wrap_u64, IntKind.wrap_u64]; congr 1; omega
  · rw [IntKind.wrap_u64]; congr 1; omega
theorem signed_eq {n : Int} {b : Bool} {k : Nat} (n1 : 0 ≤ n) (n2 : n < 18446744073709551616) (hb : b = true → 0 < n) : checked_signed.f (k + 1) n b = some (fit (if b then -n else n)) := by
  unfold checked_signed.f
  cases b
  · simp only [Bool.false_eq_true, if_false]
    simp only [checked_signed.j0, Bool.false_eq_true, if_false, if_true]
    split
    · rw [fit_out (by omega)]
    · rw [fit_in (by omega) (by omega), wrap_id (by omega) (by omega)]
  · have := hb rfl
    simp only [if_true]
    simp only [checked_signed.j0, Bool.false_eq_true, if_false, if_true]
    split
    · rw [fit_out (by omega)]
    · rw [fit_in (by omega) (by omega), IntKind.wrap_u64]
      congr 2
      unfold wrap64; omega
theorem mul_eq {a b : Int} {k : Nat} (a1 : -9223372036854775808 ≤ a) (a2 : a ≤ 9223372036854775807) (b1 : -9223372036854775808 ≤ b) (b2 : b ≤ 9223372036854775807) : checked_Mul.f (k + 1) a b = some (fit (a * b)) := by
  unfold checked_Mul.f
  rw [size_eq a1 a2, size_eq b1 b2]
  simp only [Option.bind_some]
  rw [mul64_eq (by omega) (by omega) (by omega) (by omega)]
  simp only [Option.bind_some]
  have hab : ((a * b).natAbs : Int) = (a.natAbs : Int) * (b.natAbs : Int) := by rw [Int.natAbs_mul]; simp
  have hsgn : a * b = if decide (a < 0) != decide (b < 0) then -((a * b).natAbs : Int) else ((a * b).natAbs : Int) := by
    rcases Int.lt_or_le a 0 with ha | ha <;> rcases Int.lt_or_le b 0 with hb | hb
    · have := Int.mul_nonneg_of_nonpos_of_nonpos (Int.le_of_lt ha) (Int.le_of_lt hb)
      simp only [ha, hb, decide_true, bne_self_eq_false, Bool.false_eq_true, if_false]; omega
    · have := Int.mul_nonpos_of_nonpos_of_nonneg (Int.le_of_lt ha) hb
      simp only [ha, show ¬ b < 0 by omega, decide_true, decide_false, Bool.bne_false, if_true]; omega
    · have := Int.mul_nonpos_of_nonneg_of_nonpos ha (Int.le_of_lt hb)
      simp only [show ¬ a < 0 by omega, hb, decide_true, decide_false, Bool.bne_true, Bool.not_false, if_true]; omega
    · have := Int.mul_nonneg ha hb
      simp only [show ¬ a < 0 by omega, show ¬ b < 0 by omega, decide_false, bne_self_eq_false, Bool.false_eq_true, if_false]; omega
  rw [← hab]
  generalize (decide (a < 0) != decide (b < 0)) = s at *
  generalize a * b = p at *
  clear hab
  by_cases hbig : (p.natAbs : Int) / 18446744073709551616 > 0
  · rw [if_pos hbig, fit_out (by omega)]
  · rw [if_neg hbig]
    have hm : (p.natAbs : Int) % 18446744073709551616 = (p.natAbs : Int) := by omega
    rw [hm]
    by_cases h0 : (p.natAbs : Int) > 0
    · rw [if_pos h0, signed_eq (by omega) (by omega) (fun _ => h0), ← hsgn]; simp
    · rw [if_neg h0, signed_eq (by omega) (by omega) (fun h => by cases h)]
      have : p = 0 := by omega
      subst this; simp
theorem awake_eq (k : Nat) : chordmaillaw03_awake.f (k + 1) = some true := by
  unfold chordmaillaw03_awake.f
  rw [add_eq (by omega) (by omega) (by omega) (by omega), mul_eq (by omega) (by omega) (by omega) (by omega)]
  have h1 : checked_Euclid.f (-7) 3 = some (2, 0) := by decide +kernel
  have h2 : checked_Sum.f [4611686018427387904, 4611686018427387904, (-4611686018427387904), (-4611686018427387904), 5] = some (5, 0) := by decide +kernel
  rw [h1, h2]
  decide +kernel
theorem euclid_eq {a n : Int} (a1 : -9223372036854775808 ≤ a) (a2 : a ≤ 9223372036854775807) (n1 : 1 ≤ n) (n2 : n ≤ 9223372036854775807) : checked_Euclid.f a n = some (a % n, 0) := by
  unfold checked_Euclid.f
  rw [if_neg (by omega), if_neg (by omega)]
  have h0 : ¬ n = 0 := by omega
  have e0 := Int.emod_nonneg a h0
  have e1 := Int.emod_lt_of_pos a (show 0 < n by omega)
  rcases Int.lt_or_le a 0 with h | h
  · have ht : Int.tmod a n = -((-a) % n) := by
      have : Int.tmod (-a) n = (-a) % n := Int.tmod_eq_emod_of_nonneg (by omega)
      rw [Int.neg_tmod] at this; omega
    have hn : (-a) % n = if a % n = 0 then 0 else n - a % n := by
      split
      · rename_i h; rw [Int.neg_emod, if_pos (Int.dvd_of_emod_eq_zero h)]
      · rename_i h
        rw [Int.neg_emod, if_neg (fun hd => h (Int.emod_eq_zero_of_dvd hd))]
        omega
    rw [ht, hn]
    generalize a % n = q at *
    by_cases hq : q = 0
    · rw [if_pos hq, if_neg (by omega)]; simp; omega
    · rw [if_neg hq, if_pos (by omega), wrap_id (by omega) (by omega)]; simp; omega
  · rw [Int.tmod_eq_emod_of_nonneg h, if_neg (by omega)]
theorem CheckedPicks : chordmaillaw03_CheckedPicks.Pure := by
  intro a n ha hn
  obtain ⟨a1, a2⟩ := wf_bounds ha
  obtain ⟨n1, n2⟩ := wf_bounds hn
  refine ⟨9, ?_⟩
  unfold chordmaillaw03_CheckedPicks.f
  rw [awake_eq]
  simp only [Option.bind_some, if_true]
  by_cases h1 : n < 1
  · unfold checked_Euclid.f
    simp [h1]
  · rw [euclid_eq a1 a2 (by omega) n2]
    have h0 : ¬ n = 0 := by omega
    have e0 := Int.emod_nonneg a h0
    have e1 := Int.emod_lt_of_pos a (show 0 < n by omega)
    simp only [Option.bind_some, if_true]
    rw [if_neg h1, if_neg (by omega)]
    have hlast : (if a < 0 then ((checked_Euclid.f (wrap64 (a + n)) n).bind fun bt => (if bt.2 = 0 then (some (bt.1 == a % n)) else (some false))) else (if a ≥ n then (some true) else (some (a % n == a)))) = some true := by
      by_cases hneg : a < 0
      · rw [if_pos hneg, wrap_id (by omega) (by omega), euclid_eq (by omega) (by omega) (by omega) n2]
        simp
      · rw [if_neg hneg]
        by_cases hge : a ≥ n
        · rw [if_pos hge]
        · rw [if_neg hge, Int.emod_eq_of_lt (by omega) (by omega)]; simp
    have j1 : ∀ k, chordmaillaw03_CheckedPicks.j1 (k + 1) a n (a % n) false = some true := fun k => by
      simp only [chordmaillaw03_CheckedPicks.j1]
      rw [if_neg (by simp)]
      exact hlast
    have hd : decide (a % n ≥ n) = false := by simp; omega
    rw [hd]
    show chordmaillaw03_CheckedPicks.j0 (7 + 2) a n (a % n) false = some true
    simp only [chordmaillaw03_CheckedPicks.j0]
    rw [if_neg (by simp)]
    by_cases hmax : a < 9223372036854775807
    · rw [if_pos hmax, wrap_id (a := a + 1) (by omega) (by omega), euclid_eq (by omega) (by omega) (by omega) n2]
      simp only [Option.bind_some, if_true]
      rw [if_neg h0, wrap_id (a := a % n + 1) (by omega) (by omega)]
      have hs : (a + 1) % n = if a % n + 1 = n then 0 else a % n + 1 := by
        rw [Int.add_emod]
        by_cases hn1 : n = 1
        · subst hn1; simp [Int.emod_one]
        · rw [Int.emod_eq_of_lt (a := 1) (by omega) (by omega)]
          split
          · rename_i h; rw [h, Int.emod_self]
          · exact Int.emod_eq_of_lt (by omega) (by omega)
      rw [hs]
      by_cases hq : a % n + 1 = n
      · rw [if_pos hq]
        have hself : Int.tmod (a % n + 1) n = 0 := by rw [hq, Int.tmod_self]
        rw [hself, if_pos rfl, if_pos hq]
        exact j1 _
      · rw [if_neg hq]
        have hself : Int.tmod (a % n + 1) n = a % n + 1 := by rw [Int.tmod_eq_emod_of_nonneg (by omega), Int.emod_eq_of_lt (by omega) (by omega)]
        rw [hself, if_pos rfl, if_neg hq]
        exact j1 _
    · rw [if_neg hmax]
      exact hlast

end Go.Proofs.Ytacmheeodhjlbaa.Pure
