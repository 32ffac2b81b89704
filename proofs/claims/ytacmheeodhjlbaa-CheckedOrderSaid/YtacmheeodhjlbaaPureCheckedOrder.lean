import Derived.Test.YtacmheeodhjlbaaXOrderWalk
namespace Go.Proofs.Ytacmheeodhjlbaa.Pure
open Go.RowKit Go.Proofs.Ytacmheeodhjlbaa.PCheckedOrder Go.Proofs.YtacmheeodhjlbaaW.PrintWords Go.Proofs.YtacmheeodhjlbaaW.PrintLast
set_option linter.unusedVariables false
set_option linter.unusedSimpArgs false
theorem wf_bounds {a : Int} (h : (Lit.int .i64 a).wf = true) : -9223372036854775808 ≤ a ∧ a ≤ 9223372036854775807 := by
  simpa [Lit.wf, IntKind.min, IntKind.max, IntKind.signed, IntKind.bits] using h
theorem wrap_id {a : Int} (h1 : -9223372036854775808 ≤ a) (h2 : a ≤ 9223372036854775807) : wrap64 a = a := by
  unfold wrap64; omega
/-- A number that is within 64 bits, or the error 30. -/
def fit (a : Int) : Int × Int := if -9223372036854775808 ≤ a ∧ a ≤ 9223372036854775807 then (a, 0) else (0, 30)
theorem fit_in {a : Int} (h1 : -9223372036854775808 ≤ a) (h2 : a ≤ 9223372036854775807) : fit a = (a, 0) := if_pos ⟨h1, h2⟩
theorem fit_out {a : Int} (h : a < -9223372036854775808 ∨ 9223372036854775807 < a) : fit a = (0, 30) := if_neg (by omega)

theorem add_eq {a b : Int} (a1 : -9223372036854775808 ≤ a) (a2 : a ≤ 9223372036854775807) (b1 : -9223372036854775808 ≤ b) (b2 : b ≤ 9223372036854775807) : checked_Add.f a b = some (fit (a + b)) := by
  unfold checked_Add.f
  by_cases hw : -9223372036854775808 ≤ a + b ∧ a + b ≤ 9223372036854775807
  · rw [wrap_id hw.1 hw.2, fit_in hw.1 hw.2]
    by_cases hb : b = 0
    · simp [hb]
    · have e : (decide (a + b > a) != decide (b > 0)) = false := by
        rw [bne_eq_false_iff_eq]; exact decide_eq_decide.2 (by omega)
      rw [e]; simp
  · rw [fit_out (by omega)]
    have hb : ¬ b = 0 := by omega
    have e : (decide (wrap64 (a + b) > a) != decide (b > 0)) = true := by
      rw [bne_iff_ne, ne_eq, decide_eq_decide]; unfold wrap64; omega
    rw [e]; simp [hb]
theorem mask32 {x : Int} (h : 0 ≤ x) (h' : x < 18446744073709551616) : Go.bits .and .u64 x 4294967295 = x % 4294967296 := by
  obtain ⟨n, rfl⟩ := Int.eq_ofNat_of_zero_le h
  have : Go.bits .and .u64 (n : Int) ((4294967295 : Nat) : Int) = ((n &&& 4294967295 : Nat) : Int) := bits_and_u64_nat n 4294967295 (by omega) (by omega)
  rw [show (4294967295 : Int) = ((4294967295 : Nat) : Int) from rfl, this, show n &&& 4294967295 = n % 4294967296 from Nat.and_two_pow_sub_one_eq_mod n 32]
  omega
theorem mul_bd {a b : Int} (a1 : 0 ≤ a) (a2 : a < 4294967296) (b1 : 0 ≤ b) (b2 : b < 4294967296) : 0 ≤ a * b ∧ a * b ≤ 18446744065119617025 := by
  constructor
  · exact Int.mul_nonneg a1 b1
  · have h := Int.mul_le_mul (show a ≤ 4294967295 by omega) (show b ≤ 4294967295 by omega) b1 (by omega)
    simpa using h
theorem mul64_eq {x y : Int} (x1 : 0 ≤ x) (x2 : x < 18446744073709551616) (y1 : 0 ≤ y) (y2 : y < 18446744073709551616) : bits_Mul64.f x y = some (x * y / 18446744073709551616, x * y % 18446744073709551616) := by
  unfold bits_Mul64.f
  rw [mask32 x1 x2, mask32 y1 y2]
  obtain ⟨xh, hxh⟩ : ∃ v, x / 4294967296 = v := ⟨_, rfl⟩
  obtain ⟨xl, hxl⟩ : ∃ v, x % 4294967296 = v := ⟨_, rfl⟩
  obtain ⟨yh, hyh⟩ : ∃ v, y / 4294967296 = v := ⟨_, rfl⟩
  obtain ⟨yl, hyl⟩ : ∃ v, y % 4294967296 = v := ⟨_, rfl⟩
  have ex : x = xh * 4294967296 + xl := by omega
  have ey : y = yh * 4294967296 + yl := by omega
  have exy : x * y = xh * yh * 18446744073709551616 + (xh * yl + xl * yh) * 4294967296 + xl * yl := by
    rw [ex, ey, Int.add_mul, Int.mul_add, Int.mul_add]
    have e1 : xh * 4294967296 * (yh * 4294967296) = xh * yh * 18446744073709551616 := by
      rw [Int.mul_assoc, Int.mul_left_comm 4294967296 yh, ← Int.mul_assoc]; rfl
    have e2 : xh * 4294967296 * yl = xh * yl * 4294967296 := by rw [Int.mul_assoc, Int.mul_comm 4294967296 yl, ← Int.mul_assoc]
    have e3 : xl * (yh * 4294967296) = xl * yh * 4294967296 := by rw [← Int.mul_assoc]
    rw [e1, e2, e3, Int.add_mul]; omega
  have p1 := mul_bd (a := xh) (b := yh) (by omega) (by omega) (by omega) (by omega)
  have p2 := mul_bd (a := xh) (b := yl) (by omega) (by omega) (by omega) (by omega)
  have p3 := mul_bd (a := xl) (b := yh) (by omega) (by omega) (by omega) (by omega)
  have p4 := mul_bd (a := xl) (b := yl) (by omega) (by omega) (by omega) (by omega)
  rw [hxh, hxl, hyh, hyl, exy]
  generalize xh * yh = A at *
  generalize xh * yl = B at *
  generalize xl * yh = C at *
  generalize xl * yl = D at *
  clear hxh hxl hyh hyl ex ey exy
  simp only [IntKind.wrap_u64]
  rw [Int.emod_eq_of_lt (a := A) (by omega) (by omega), Int.emod_eq_of_lt (a := B) (by omega) (by omega), Int.emod_eq_of_lt (a := C) (by omega) (by omega), Int.emod_eq_of_lt (a := D) (by omega) (by omega)]
  rw [Int.emod_eq_of_lt (a := B + D / 4294967296) (by omega) (by omega)]
  rw [mask32 (by omega) (by omega)]
  rw [Int.emod_eq_of_lt (a := (B + D / 4294967296) % 4294967296 + C) (by omega) (by omega)]
  rw [Int.emod_eq_of_lt (a := A + (B + D / 4294967296) / 4294967296) (by omega) (by omega)]
  congr 2
  omega
theorem size_eq {a : Int} (a1 : -9223372036854775808 ≤ a) (a2 : a ≤ 9223372036854775807) : checked_size.f a = some (a.natAbs : Int) := by
  unfold checked_size.f
  split
  · rw [IntKind.wrap_u64, IntKind.wrap_u64]; congr 1; omega
  · rw [IntKind.wrap_u64]; congr 1; omega
theorem signed_eq {n : Int} {b : Bool} {k : Nat} (n1 : 0 ≤ n) (n2 : n < 18446744073709551616) (hb : b = true → 0 < n) : checked_signed.f (k + 1) n b = some (fit (if b then -n else n)) := by
  unfold checked_signed.f
  cases b
  · simp only [Bool.false_eq_true, if_false]
    simp only [checked_signed.j0, Bool.false_eq_true, if_false, if_true]
    split
    · rw [fit_out (by omega)]
    · rw [fit_in (by omega) (by omega), wrap_id (by omega) (by omega)]
  · have := hb rfl
    simp only [if_true]
    simp only [checked_signed.j0, Bool.false_eq_true, if_false, if_true]
    split
    · rw [fit_out (by omega)]
    · rw [fit_in (by omega) (by omega), IntKind.wrap_u64]
      congr 2
      unfold wrap64; omega
theorem mul_eq {a b : Int} {k : Nat} (a1 : -9223372036854775808 ≤ a) (a2 : a ≤ 9223372036854775807) (b1 : -9223372036854775808 ≤ b) (b2 : b ≤ 9223372036854775807) : checked_Mul.f (k + 1) a b = some (fit (a * b)) := by
  unfold checked_Mul.f
  rw [size_eq a1 a2, size_eq b1 b2]
  simp only [Option.bind_some]
  rw [mul64_eq (by omega) (by omega) (by omega) (by omega)]
  simp only [Option.bind_some]
  have hab : ((a * b).natAbs : Int) = (a.natAbs : Int) * (b.natAbs : Int) := by rw [Int.natAbs_mul]; simp
  have hsgn : a * b = if decide (a < 0) != decide (b < 0) then -((a * b).natAbs : Int) else ((a * b).natAbs : Int) := by
    rcases Int.lt_or_le a 0 with ha | ha <;> rcases Int.lt_or_le b 0 with hb | hb
    · have := Int.mul_nonneg_of_nonpos_of_nonpos (Int.le_of_lt ha) (Int.le_of_lt hb)
      simp only [ha, hb, decide_true, bne_self_eq_false, Bool.false_eq_true, if_false]; omega
    · have := Int.mul_nonpos_of_nonpos_of_nonneg (Int.le_of_lt ha) hb
      simp only [ha, show ¬ b < 0 by omega, decide_true, decide_false, Bool.bne_false, if_true]; omega
    · have := Int.mul_nonpos_of_nonneg_of_nonpos ha (Int.le_of_lt hb)
      simp only [show ¬ a < 0 by omega, hb, decide_true, decide_false, Bool.bne_true, Bool.not_false, if_true]; omega
    · have := Int.mul_nonneg ha hb
      simp only [show ¬ a < 0 by omega, show ¬ b < 0 by omega, decide_false, bne_self_eq_false, Bool.false_eq_true, if_false]; omega
  rw [← hab]
  generalize (decide (a < 0) != decide (b < 0)) = s at *
  generalize a * b = p at *
  clear hab
  by_cases hbig : (p.natAbs : Int) / 18446744073709551616 > 0
  · rw [if_pos hbig, fit_out (by omega)]
  · rw [if_neg hbig]
    have hm : (p.natAbs : Int) % 18446744073709551616 = (p.natAbs : Int) := by omega
    rw [hm]
    by_cases h0 : (p.natAbs : Int) > 0
    · rw [if_pos h0, signed_eq (by omega) (by omega) (fun _ => h0), ← hsgn]; simp
    · rw [if_neg h0, signed_eq (by omega) (by omega) (fun h => by cases h)]
      have : p = 0 := by omega
      subst this; simp
theorem awake_eq (k : Nat) : chordmaillaw03_awake.f (k + 1) = some true := by
  unfold chordmaillaw03_awake.f
  rw [add_eq (by omega) (by omega) (by omega) (by omega), mul_eq (by omega) (by omega) (by omega) (by omega)]
  have h1 : checked_Euclid.f (-7) 3 = some (2, 0) := by decide +kernel
  have h2 : checked_Sum.f [4611686018427387904, 4611686018427387904, (-4611686018427387904), (-4611686018427387904), 5] = some (5, 0) := by decide +kernel
  rw [h1, h2]
  decide +kernel

/-! ### Sums and products of lists -/
def prodL : List Int → Int
  | [] => 1
  | x :: t => x * prodL t
theorem perm_sum {a b : List Int} (h : a.Perm b) : a.sum = b.sum := by
  induction h with
  | nil => rfl
  | cons x _ ih => simp only [List.sum_cons, ih]
  | swap x y l => simp only [List.sum_cons]; omega
  | trans _ _ h1 h2 => exact h1.trans h2
theorem perm_prod {a b : List Int} (h : a.Perm b) : prodL a = prodL b := by
  induction h with
  | nil => rfl
  | cons x _ ih => simp only [prodL, ih]
  | swap x y l => simp only [prodL]; rw [Int.mul_left_comm]
  | trans _ _ h1 h2 => exact h1.trans h2
theorem prodL_one (a : List Int) : prodL (a ++ [1]) = prodL a := by
  induction a with
  | nil => rfl
  | cons x t ih => simp only [List.cons_append, prodL, ih]
theorem prodL_zero {a : List Int} (h : (0 : Int) ∈ a) : prodL a = 0 := by
  induction a with
  | nil => cases h
  | cons x t ih =>
    simp only [prodL]
    rcases List.mem_cons.1 h with h | h
    · rw [← h, Int.zero_mul]
    · rw [ih h, Int.mul_zero]
theorem prodL_pos {a : List Int} (h : ¬ (0 : Int) ∈ a) : 1 ≤ (prodL a).natAbs := by
  induction a with
  | nil => decide
  | cons x t ih =>
    simp only [prodL]
    have h1 : x ≠ 0 := fun e => h (by rw [e]; exact List.mem_cons_self ..)
    have h2 := ih fun e => h (List.mem_cons_of_mem _ e)
    rw [Int.natAbs_mul]
    exact Nat.mul_pos (by omega) h2
theorem index_l0 (l : List Int) (hl : l.length ≤ 17592186044416) (m : Nat) : ∀ (i k : Nat), i + m = l.length → m + 1 ≤ k → ∃ r : Int, slices_Index_int64_int64.l0 k l 0 (l.length : Int) (i : Int) = some r ∧ (0 ≤ r ↔ (0 : Int) ∈ l.drop i) := by
  induction m with
  | zero =>
    intro i k hi hk
    obtain ⟨k, rfl⟩ : ∃ k', k = k' + 1 := ⟨k - 1, by omega⟩
    refine ⟨-1, by simp only [slices_Index_int64_int64.l0]; rw [if_neg (by omega)], ?_⟩
    rw [List.drop_of_length_le (by omega)]
    simp
  | succ m ih =>
    intro i k hi hk
    obtain ⟨k, rfl⟩ : ∃ k', k = k' + 1 := ⟨k - 1, by omega⟩
    have hlt : i < l.length := by omega
    simp only [slices_Index_int64_int64.l0]
    rw [if_pos (by omega), if_pos (by omega), if_pos (by omega), List.drop_eq_getElem_cons hlt]
    have hr : rd l (i : Int) = l[i] := by simp [rd, hlt]
    rw [hr]
    by_cases h0 : (0 : Int) = l[i]
    · rw [if_pos h0]
      refine ⟨_, rfl, ?_⟩
      simp [← h0]
    · rw [if_neg h0, wrap_id (by omega) (by omega)]
      obtain ⟨r, h1, h2⟩ := ih (i + 1) k (by omega) (by omega)
      refine ⟨r, h1, ?_⟩
      rw [h2, List.mem_cons]
      exact ⟨.inr, fun h => h.resolve_left h0⟩
theorem product_l0 (l : List Int) (hl : l.length ≤ 17592186044416) (hw : ∀ x ∈ l, -9223372036854775808 ≤ x ∧ x ≤ 9223372036854775807) (h0 : ¬ (0 : Int) ∈ l) (m : Nat) : ∀ (i k n : Nat) (s : Bool), i + m = l.length → m + 2 ≤ k → 1 ≤ n → n < 18446744073709551616 →
    checked_Product.l0 k (n : Int) s l (l.length : Int) (i : Int) = some (fit ((if s then -(n : Int) else (n : Int)) * prodL (l.drop i))) := by
  induction m with
  | zero =>
    intro i k n s hi hk hn hn2
    obtain ⟨k, rfl⟩ : ∃ k', k = k' + 1 + 1 := ⟨k - 2, by omega⟩
    simp only [checked_Product.l0]
    rw [if_neg (by omega), signed_eq (by omega) (by omega) (fun _ => by omega), List.drop_of_length_le (by omega)]
    simp [prodL]
  | succ m ih =>
    intro i k n s hi hk hn hn2
    obtain ⟨k, rfl⟩ : ∃ k', k = k' + 1 := ⟨k - 1, by omega⟩
    have hlt : i < l.length := by omega
    have hr : rd l (i : Int) = l[i] := by simp [rd, hlt]
    have hx := hw l[i] (List.getElem_mem hlt)
    have hx0 : l[i] ≠ 0 := fun e => h0 (by rw [← e]; exact List.getElem_mem hlt)
    have hrest : 1 ≤ (prodL (l.drop (i + 1))).natAbs := prodL_pos fun e => h0 (List.mem_of_mem_drop e)
    simp only [checked_Product.l0]
    rw [if_pos (by omega), if_pos (by omega), if_pos (by omega), hr, size_eq hx.1 hx.2]
    simp only [Option.bind_some]
    rw [mul64_eq (by omega) (by omega) (by omega) (by omega)]
    simp only [Option.bind_some]
    rw [List.drop_eq_getElem_cons hlt]
    simp only [prodL]
    have next := fun (q : Nat) (s' : Bool) (h1 : 1 ≤ q) (h2 : q < 18446744073709551616) => ih (i + 1) k q s' (by omega) (by omega) h1 h2
    generalize l[i] = x at *
    generalize prodL (l.drop (i + 1)) = R at *
    have e1 : (n : Int) * (x.natAbs : Int) = ((n * x.natAbs : Nat) : Int) := by rw [Int.natCast_mul]
    have hp : 1 ≤ n * x.natAbs := Nat.mul_pos hn (by omega)
    have habs : (if s then -(n : Int) else (n : Int)) * (x * R) = (if (s != decide (x < 0)) then -((n * x.natAbs : Nat) : Int) else ((n * x.natAbs : Nat) : Int)) * R := by
      rw [← Int.mul_assoc, ← e1]
      rcases Int.lt_or_le x 0 with h | h
      · rw [decide_eq_true h, show (x.natAbs : Int) = -x by omega]
        cases s <;> simp [Int.mul_neg, Int.neg_mul]
      · rw [decide_eq_false (show ¬ x < 0 by omega), show (x.natAbs : Int) = x by omega]
        cases s <;> simp [Int.neg_mul]
    rw [habs, e1]
    generalize hq : n * x.natAbs = q at *
    by_cases hbig : ((q : Nat) : Int) / 18446744073709551616 > 0
    · rw [if_pos hbig, fit_out]
      have hge : 18446744073709551616 ≤ q := by omega
      have hab : 18446744073709551616 ≤ ((if (s != decide (x < 0)) then -(q : Int) else (q : Int)) * R).natAbs := by
        rw [Int.natAbs_mul]
        have : (if (s != decide (x < 0)) then -(q : Int) else (q : Int)).natAbs = q := by split <;> omega
        rw [this]
        exact Nat.le_trans hge (Nat.le_mul_of_pos_right _ hrest)
      omega
    · rw [if_neg hbig, show ((q : Nat) : Int) % 18446744073709551616 = (q : Int) by omega, wrap_id (by omega) (by omega)]
      exact next q _ hp (by omega)
theorem product_eq (l : List Int) (hl : l.length ≤ 17592186044416) (hw : ∀ x ∈ l, -9223372036854775808 ≤ x ∧ x ≤ 9223372036854775807) (k : Nat) (hk : l.length + 2 ≤ k) : checked_Product.f k l = some (fit (prodL l)) := by
  unfold checked_Product.f slices_Contains_int64_int64.f slices_Index_int64_int64.f
  obtain ⟨r, h1, h2⟩ := index_l0 l hl l.length 0 k (by omega) (by omega)
  rw [show ((0 : Nat) : Int) = 0 from rfl] at h1
  rw [h1]
  simp only [Option.bind_some]
  rw [List.drop_zero] at h2
  by_cases h0 : (0 : Int) ∈ l
  · rw [if_pos (decide_eq_true (h2.2 h0)), prodL_zero h0, fit_in (by omega) (by omega)]
  · rw [if_neg (by simp; have := mt h2.1 h0; omega)]
    have := product_l0 l hl hw h0 l.length 0 k 1 false (by omega) (by omega) (by omega) (by omega)
    simpa using this
theorem sum_eq (l : List Int) (hl : l.length ≤ 17592186044416) (hw : ∀ x ∈ l, -9223372036854775808 ≤ x ∧ x ≤ 9223372036854775807) : checked_Sum.f l = some (fit l.sum) := by
  unfold checked_Sum.f fit
  rw [if_pos]
  · split <;> rfl
  · refine ⟨?_, hl⟩
    rw [List.all_eq_true]
    intro x hx
    have := hw x hx
    simp [this.1, this.2]

theorem order_walk_all (A : Option Addr) (c : Nat) (l : List Int) (A1 : Option Addr) (c1 : Nat) (ps : List Int) (w : World) (hr : Kd.C (Kd.int .i64) w A l.length l) (hc : l.length ≤ c) (hr1 : Kd.C (Kd.int .i64) w A1 ps.length ps) (hc1 : ps.length ≤ c1) (hll : l.length * 8 ≤ 140737488351232) (hpl : ps.length ≤ maxLen) (hw : ∀ x ∈ l, (Lit.int .i64 x).wf = true) :
    Calls Try.prog 8 #[.slice A l.length c, .slice A1 ps.length c1] w fun e w' => e = .returned (.bool true) ∧ Below w.heap.size w w' := by
  have hb : ∀ x ∈ l, -9223372036854775808 ≤ x ∧ x ≤ 9223372036854775807 := fun x hx => wf_bounds (hw x hx)
  have hl : l.length ≤ 17592186044415 := by omega
  have hm : ∀ other : List Int, other.Perm l → ∀ z : Int, -9223372036854775808 ≤ z ∧ z ≤ 9223372036854775807 → (∀ x ∈ other ++ [z], -9223372036854775808 ≤ x ∧ x ≤ 9223372036854775807) ∧ (other ++ [z]).length ≤ 17592186044416 := fun other ho z hz => by
    constructor
    · intro x hx
      rcases List.mem_append.1 hx with h | h
      · exact hb x (ho.mem_iff.1 h)
      · rw [List.mem_singleton.1 h]; exact hz
    · rw [List.length_append, ho.length_eq, List.length_singleton]; omega
  refine order_walk (l.length + 2 + 1) A c l A1 c1 ps w hr hc hr1 hc1 hll hpl (awake_eq _) (fit l.sum).1 (fit l.sum).2 (fit (prodL l)).1 (fit (prodL l)).2 (sum_eq l (by omega) hb) ?_ ?_ (product_eq l (by omega) hb _ (by omega)) ?_ ?_
  · intro other ho
    rw [sum_eq (other ++ [0]) (hm other ho 0 (by omega)).2 (hm other ho 0 (by omega)).1, List.sum_append, ← perm_sum ho]
    simp
  · intro a b e
    subst e
    have ha := hb a (by simp)
    have hb' := hb b (by simp)
    rw [add_eq ha.1 ha.2 hb'.1 hb'.2]
    simp
  · intro other ho
    rw [product_eq (other ++ [1]) (hm other ho 1 (by omega)).2 (hm other ho 1 (by omega)).1 _ (by rw [List.length_append, ho.length_eq, List.length_singleton]; omega), prodL_one, ← perm_prod ho]
  · intro a b e
    subst e
    have ha := hb a (by simp)
    have hb' := hb b (by simp)
    rw [mul_eq ha.1 ha.2 hb'.1 hb'.2]
    simp [prodL]
end Go.Proofs.Ytacmheeodhjlbaa.Pure
