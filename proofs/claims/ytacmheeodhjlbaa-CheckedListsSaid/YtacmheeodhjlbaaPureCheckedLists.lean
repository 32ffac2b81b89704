import Derived.Test.YtacmheeodhjlbaaXListsWalk
namespace Go.Proofs.Ytacmheeodhjlbaa.Pure
open Go.RowKit Go.Proofs.Ytacmheeodhjlbaa.PCheckedLists Go.Proofs.YtacmheeodhjlbaaW.PrintWords Go.Proofs.YtacmheeodhjlbaaW.PrintLast
set_option linter.unusedVariables false
set_option linter.unusedSimpArgs false
theorem wf_bounds {a : Int} (h : (Lit.int .i64 a).wf = true) : -9223372036854775808 ≤ a ∧ a ≤ 9223372036854775807 := by
  simpa [Lit.wf, IntKind.min, IntKind.max, IntKind.signed, IntKind.bits] using h
theorem wrap_id {a : Int} (h1 : -9223372036854775808 ≤ a) (h2 : a ≤ 9223372036854775807) : wrap64 a = a := by
  unfold wrap64; omega
/-- A number that is within 64 bits, or the error 30. -/
def fit (a : Int) : Int × Int := if -9223372036854775808 ≤ a ∧ a ≤ 9223372036854775807 then (a, 0) else (0, 30)
theorem fit_in {a : Int} (h1 : -9223372036854775808 ≤ a) (h2 : a ≤ 9223372036854775807) : fit a = (a, 0) := if_pos ⟨h1, h2⟩
theorem fit_out {a : Int} (h : a < -9223372036854775808 ∨ 9223372036854775807 < a) : fit a = (0, 30) := if_neg (by omega)

theorem mask32 {x : Int} (h : 0 ≤ x) (h' : x < 18446744073709551616) : Go.bits .and .u64 x 4294967295 = x % 4294967296 := by
  obtain ⟨n, rfl⟩ := Int.eq_ofNat_of_zero_le h
  have : Go.bits .and .u64 (n : Int) ((4294967295 : Nat) : Int) = ((n &&& 4294967295 : Nat) : Int) := bits_and_u64_nat n 4294967295 (by omega) (by omega)
  rw [show (4294967295 : Int) = ((4294967295 : Nat) : Int) from rfl, this, show n &&& 4294967295 = n % 4294967296 from Nat.and_two_pow_sub_one_eq_mod n 32]
  omega
theorem mul_bd {a b : Int} (a1 : 0 ≤ a) (a2 : a < 4294967296) (b1 : 0 ≤ b) (b2 : b < 4294967296) : 0 ≤ a * b ∧ a * b ≤ 18446744065119617025 := by
  constructor
  · exact Int.mul_nonneg a1 b1
  · have h := Int.mul_le_mul (show a ≤ 4294967295 by omega) (show b ≤ 4294967295 by omega) b1 (by omega)
    simpa using h
theorem mul64_eq {x y : Int} (x1 : 0 ≤ x) (x2 : x < 18446744073709551616) (y1 : 0 ≤ y) (y2 : y < 18446744073709551616) : bits_Mul64.f x y = some (x * y / 18446744073709551616, x * y % 18446744073709551616) := by
  unfold bits_Mul64.f
  rw [mask32 x1 x2, mask32 y1 y2]
  obtain ⟨xh, hxh⟩ : ∃ v, x / 4294967296 = v := ⟨_, rfl⟩
  obtain ⟨xl, hxl⟩ : ∃ v, x % 4294967296 = v := ⟨_, rfl⟩
  obtain ⟨yh, hyh⟩ : ∃ v, y / 4294967296 = v := ⟨_, rfl⟩
  obtain ⟨yl, hyl⟩ : ∃ v, y % 4294967296 = v := ⟨_, rfl⟩
  have ex : x = xh * 4294967296 + xl := by omega
  have ey : y = yh * 4294967296 + yl := by omega
  have exy : x * y = xh * yh * 18446744073709551616 + (xh * yl + xl * yh) * 4294967296 + xl * yl := by
    rw [ex, ey, Int.add_mul, Int.mul_add, Int.mul_add]
    have e1 : xh * 4294967296 * (yh * 4294967296) = xh * yh * 18446744073709551616 := by
      rw [Int.mul_assoc, Int.mul_left_comm 4294967296 yh, ← Int.mul_assoc]; rfl
    have e2 : xh * 4294967296 * yl = xh * yl * 4294967296 := by rw [Int.mul_assoc, Int.mul_comm 4294967296 yl, ← Int.mul_assoc]
    have e3 : xl * (yh * 4294967296) = xl * yh * 4294967296 := by rw [← Int.mul_assoc]
    rw [e1, e2, e3, Int.add_mul]; omega
  have p1 := mul_bd (a := xh) (b := yh) (by omega) (by omega) (by omega) (by omega)
  have p2 := mul_bd (a := xh) (b := yl) (by omega) (by omega) (by omega) (by omega)
  have p3 := mul_bd (a := xl) (b := yh) (by omega) (by omega) (by omega) (by omega)
  have p4 := mul_bd (a := xl) (b := yl) (by omega) (by omega) (by omega) (by omega)
  rw [hxh, hxl, hyh, hyl, exy]
  generalize xh * yh = A at *
  generalize xh * yl = B at *
  generalize xl * yh = C at *
  generalize xl * yl = D at *
  clear hxh hxl hyh hyl ex ey exy
  simp only [IntKind.wrap_u64]
  rw [Int.emod_eq_of_lt (a := A) (by omega) (by omega), Int.emod_eq_of_lt (a := B) (by omega) (by omega), Int.emod_eq_of_lt (a := C) (by omega) (by omega), Int.emod_eq_of_lt (a := D) (by omega) (by omega)]
  rw [Int.emod_eq_of_lt (a := B + D / 4294967296) (by omega) (by omega)]
  rw [mask32 (by omega) (by omega)]
  rw [Int.emod_eq_of_lt (a := (B + D / 4294967296) % 4294967296 + C) (by omega) (by omega)]
  rw [Int.emod_eq_of_lt (a := A + (B + D / 4294967296) / 4294967296) (by omega) (by omega)]
  congr 2
  omega
theorem size_eq {a : Int} (a1 : -9223372036854775808 ≤ a) (a2 : a ≤ 9223372036854775807) : checked_size.f a = some (a.natAbs : Int) := by
  unfold checked_size.f
  split
  · rw [IntKind.wrap_u64, IntKind.wrap_u64]; congr 1; omega
  · rw [IntKind.wrap_u64]; congr 1; omega
theorem signed_eq {n : Int} {b : Bool} {k : Nat} (n1 : 0 ≤ n) (n2 : n < 18446744073709551616) (hb : b = true → 0 < n) : checked_signed.f (k + 1) n b = some (fit (if b then -n else n)) := by
  unfold checked_signed.f
  cases b
  · simp only [Bool.false_eq_true, if_false]
    simp only [checked_signed.j0, Bool.false_eq_true, if_false, if_true]
    split
    · rw [fit_out (by omega)]
    · rw [fit_in (by omega) (by omega), wrap_id (by omega) (by omega)]
  · have := hb rfl
    simp only [if_true]
    simp only [checked_signed.j0, Bool.false_eq_true, if_false, if_true]
    split
    · rw [fit_out (by omega)]
    · rw [fit_in (by omega) (by omega), IntKind.wrap_u64]
      congr 2
      unfold wrap64; omega
/-! ### Decimal digits -/
/-- The digits of a number, the lowest first. -/
def digs (n : Nat) : List Int := if h : n = 0 then [] else ((n % 10 : Nat) : Int) :: digs (n / 10)
termination_by n
decreasing_by exact Nat.div_lt_self (by omega) (by omega)
theorem digs_zero : digs 0 = [] := by rw [digs, dif_pos rfl]
theorem digs_pos {n : Nat} (h : 0 < n) : digs n = ((n % 10 : Nat) : Int) :: digs (n / 10) := by
  conv => lhs; rw [digs, dif_neg (by omega)]
theorem div_pow_succ (n i : Nat) : n / 10 ^ (i + 1) = n / 10 / 10 ^ i := by
  rw [Nat.pow_succ, Nat.mul_comm, Nat.div_div_eq_div_mul]
theorem div_pow_succ' (n i : Nat) : n / 10 ^ (i + 1) = n / 10 ^ i / 10 := by
  rw [Nat.pow_succ, Nat.div_div_eq_div_mul]
theorem digs_lt (n i : Nat) : i < (digs n).length ↔ 0 < n / 10 ^ i := by
  induction i generalizing n with
  | zero =>
    rcases Nat.eq_zero_or_pos n with h | h
    · subst h; simp [digs_zero]
    · rw [digs_pos h]; simp; omega
  | succ i ih =>
    rw [div_pow_succ]
    rcases Nat.eq_zero_or_pos n with h | h
    · subst h; simp [digs_zero]
    · rw [digs_pos h, ← ih]; simp
theorem digs_get (n i : Nat) : (digs n).getD i 0 = ((n / 10 ^ i % 10 : Nat) : Int) := by
  induction i generalizing n with
  | zero =>
    rcases Nat.eq_zero_or_pos n with h | h
    · subst h; simp [digs_zero]
    · rw [digs_pos h]; simp
  | succ i ih =>
    rw [div_pow_succ, ← ih]
    rcases Nat.eq_zero_or_pos n with h | h
    · subst h; simp [digs_zero]
    · rw [digs_pos h]; simp
theorem digs_nil (n : Nat) : (digs n).length = 0 ↔ n = 0 := by
  have := digs_lt n 0
  simp at this
  omega
theorem digs_len {n N : Nat} (h : n < 10 ^ N) : (digs n).length ≤ N := by
  rcases Nat.lt_or_ge N (digs n).length with h' | h'
  · have := (digs_lt n N).1 h'
    rw [Nat.div_eq_of_lt h] at this
    omega
  · exact h'
theorem digs_top (n : Nat) : n < 10 ^ (digs n).length := by
  rcases Nat.lt_or_ge n (10 ^ (digs n).length) with h | h
  · exact h
  · have := (digs_lt n (digs n).length).2 (Nat.div_pos h (Nat.pow_pos (by omega)))
    omega
theorem digit_eq (l : List Int) (i : Nat) : chordmailref03_digit.f l (i : Int) = some (l.getD i 0) := by
  unfold chordmailref03_digit.f
  by_cases h : (i : Int) < (l.length : Int)
  · rw [if_pos h, if_pos (by omega)]; simp [rd]
  · rw [if_neg h, List.getD_eq_getElem?_getD, List.getElem?_eq_none (by omega)]; rfl

theorem of_l0 (b : Bool) (n : Nat) : ∀ (x : Int) (acc : List Int), (x = n ∨ x = -(n : Int)) → n ≤ 9223372036854775808 → -9223372036854775808 ≤ x ∧ x ≤ 9223372036854775807 → acc.length + (digs n).length < 17592186044416 →
    Ev (fun k => chordmailref03_Of.l0 k x b acc) (b, acc ++ digs n) := by
  induction n using Nat.strongRecOn with
  | _ n ih =>
    intro x acc hx hn hb hlen
    rcases Nat.eq_zero_or_pos n with h0 | h0
    · subst h0
      have : x = 0 := by omega
      subst this
      refine Ev.step (f := fun _ => some (b, acc)) (fun k => by simp only [chordmailref03_Of.l0, if_true]) ?_
      rw [digs_zero, List.append_nil]
      exact Ev.now _
    · have hne : ¬ x = 0 := by omega
      have hd := digs_pos h0
      have hlen' : acc.length + 1 + (digs (n / 10)).length < 17592186044416 := by rw [hd] at hlen; simp at hlen; omega
      have hw : wrap64 (Int.tdiv x 10) = Int.tdiv x 10 ∧ (Int.tdiv x 10 = ((n / 10 : Nat) : Int) ∨ Int.tdiv x 10 = -((n / 10 : Nat) : Int)) := by
        rcases hx with hx | hx
        · have : Int.tdiv x 10 = ((n / 10 : Nat) : Int) := by rw [hx, Int.tdiv_eq_ediv_of_nonneg (by omega)]; omega
          rw [this]; exact ⟨wrap_id (by omega) (by omega), .inl rfl⟩
        · have : Int.tdiv x 10 = -((n / 10 : Nat) : Int) := by rw [hx, Int.neg_tdiv, Int.tdiv_eq_ediv_of_nonneg (by omega)]; omega
          rw [this]; exact ⟨wrap_id (by omega) (by omega), .inr rfl⟩
      have hm : Int.tmod x 10 = ((n % 10 : Nat) : Int) ∨ Int.tmod x 10 = -((n % 10 : Nat) : Int) := by
        rcases hx with hx | hx
        · left; rw [hx, Int.tmod_eq_emod_of_nonneg (by omega)]; omega
        · right; rw [hx, Int.neg_tmod, Int.tmod_eq_emod_of_nonneg (by omega)]; omega
      have next := ih (n / 10) (by omega) (Int.tdiv x 10) (acc ++ [((n % 10 : Nat) : Int)]) hw.2 (by omega) (by rcases hw.2 with h | h <;> omega) (by simp; omega)
      rw [List.append_assoc, List.singleton_append, ← hd] at next
      by_cases hneg : Int.tmod x 10 < 0
      · refine Ev.step (fun k => ?_) next
        simp only [chordmailref03_Of.l0]
        rw [if_neg hne, if_pos hneg, if_pos (by omega), hw.1, wrap_id (by omega) (by omega), show -(Int.tmod x 10) = ((n % 10 : Nat) : Int) by omega]
      · refine Ev.step (fun k => ?_) next
        simp only [chordmailref03_Of.l0]
        rw [if_neg hne, if_neg hneg, if_pos (by omega), hw.1, show Int.tmod x 10 = ((n % 10 : Nat) : Int) by omega]
theorem of_eq {x : Int} (x1 : -9223372036854775808 ≤ x) (x2 : x ≤ 9223372036854775807) : Ev (fun k => chordmailref03_Of.f k x) (decide (x < 0), digs x.natAbs) := by
  have := of_l0 (decide (x < 0)) x.natAbs x [] (by omega) (by omega) ⟨x1, x2⟩ (by
    have := digs_len (n := x.natAbs) (N := 20) (by omega)
    simp; omega)
  exact this

theorem together_l0 (a b : Nat) (s : Nat) : ∀ (A B c : Nat) (out : List Int), A = a / 10 ^ out.length → B = b / 10 ^ out.length → c ≤ 1 → A + B + c = s → out.length + (digs s).length < 17592186044416 →
    Ev (fun k => chordmailref03_together.l0 k (digs a) (digs b) out c out.length) (out ++ digs s) := by
  induction s using Nat.strongRecOn with
  | _ s ih =>
    intro A B c out hA hB hc hs hlen
    have la := digs_lt a out.length
    have lb := digs_lt b out.length
    rw [← hA] at la
    rw [← hB] at lb
    rcases Nat.eq_zero_or_pos s with h0 | h0
    · have e1 : ¬ ((out.length : Nat) : Int) < ((digs a).length : Int) := by omega
      have e2 : ¬ ((out.length : Nat) : Int) < ((digs b).length : Int) := by omega
      refine Ev.step (f := fun k => chordmailref03_together.j1 k (digs a) (digs b) out c out.length (decide ((c : Int) > 0))) (fun k => by simp only [chordmailref03_together.l0]; rw [if_neg e1, if_neg e2]) ?_
      refine Ev.step (f := fun _ => some out) (fun k => by simp only [chordmailref03_together.j1]; rw [if_neg (by simp; omega)]) ?_
      rw [h0, digs_zero, List.append_nil]
      exact Ev.now _
    · have hd := digs_pos h0
      have hlen' : out.length + 1 + (digs (s / 10)).length < 17592186044416 := by rw [hd] at hlen; simp at hlen; omega
      have next := ih (s / 10) (by omega) (A / 10) (B / 10) ((A % 10 + B % 10 + c) / 10) (out ++ [((s % 10 : Nat) : Int)]) (by rw [List.length_append, List.length_singleton, div_pow_succ', hA]) (by rw [List.length_append, List.length_singleton, div_pow_succ', hB]) (by omega) (by omega) (by simp; omega)
      rw [List.append_assoc, List.singleton_append, ← hd] at next
      have hj : Ev (fun k => chordmailref03_together.j1 k (digs a) (digs b) out c out.length true) (out ++ digs s) := by
        refine Ev.step (fun k => ?_) next
        simp only [chordmailref03_together.j1, if_true]
        rw [digit_eq, digit_eq, digs_get, digs_get, ← hA, ← hB]
        simp only [Option.bind_some]
        rw [if_pos (by omega), wrap_id (a := ((A % 10 : Nat) : Int) + ((B % 10 : Nat) : Int)) (by omega) (by omega), wrap_id (a := ((A % 10 : Nat) : Int) + ((B % 10 : Nat) : Int) + (c : Int)) (by omega) (by omega)]
        rw [Int.tmod_eq_emod_of_nonneg (by omega), Int.tdiv_eq_ediv_of_nonneg (by omega), wrap_id (by omega) (by omega), wrap_id (a := ((out.length : Nat) : Int) + 1) (by omega) (by omega)]
        rw [show (((A % 10 : Nat) : Int) + ((B % 10 : Nat) : Int) + (c : Int)) % 10 = ((s % 10 : Nat) : Int) by omega, show (((A % 10 : Nat) : Int) + ((B % 10 : Nat) : Int) + (c : Int)) / 10 = (((A % 10 + B % 10 + c) / 10 : Nat) : Int) by omega]
        rw [List.length_append, List.length_singleton]
        rfl
      by_cases ca : ((out.length : Nat) : Int) < ((digs a).length : Int)
      · exact Ev.step (fun k => by simp only [chordmailref03_together.l0]; rw [if_pos ca]) hj
      · by_cases cb : ((out.length : Nat) : Int) < ((digs b).length : Int)
        · exact Ev.step (fun k => by simp only [chordmailref03_together.l0]; rw [if_neg ca, if_pos cb]) hj
        · refine Ev.step (fun k => ?_) hj
          simp only [chordmailref03_together.l0]
          rw [if_neg ca, if_neg cb, decide_eq_true (show (c : Int) > 0 by omega)]
theorem together_eq {a b N : Nat} (ha : a < 10 ^ N) (hb : b < 10 ^ N) (hN : N ≤ 1000) : Ev (fun k => chordmailref03_together.f k (digs a) (digs b)) (digs (a + b)) := by
  have h : a + b < 10 ^ (N + 1) := by rw [Nat.pow_succ]; omega
  have := together_l0 a b (a + b) a b 0 [] (by simp) (by simp) (by omega) (by omega) (by have := digs_len h; simp; omega)
  exact this

/-! ### Rows of digits -/
/-- The list holds the digits of n, the lowest first, with noughts behind them. -/
def Is (l : List Int) (n : Nat) : Prop := n < 10 ^ l.length ∧ ∀ i, i < l.length → l.getD i 0 = ((n / 10 ^ i % 10 : Nat) : Int)
theorem Is.get {l : List Int} {n : Nat} (h : Is l n) (i : Nat) : l.getD i 0 = ((n / 10 ^ i % 10 : Nat) : Int) := by
  rcases Nat.lt_or_ge i l.length with hi | hi
  · exact h.2 i hi
  · rw [List.getD_eq_getElem?_getD, List.getElem?_eq_none hi, Nat.div_eq_of_lt (Nat.lt_of_lt_of_le h.1 (Nat.pow_le_pow_right (by omega) hi))]; rfl
theorem Is.over {l : List Int} {n i : Nat} (h : Is l n) (hi : l.length ≤ i) : n / 10 ^ i = 0 := Nat.div_eq_of_lt (Nat.lt_of_lt_of_le h.1 (Nat.pow_le_pow_right (by omega) hi))
theorem Is.digs (n : Nat) : Is (digs n) n := ⟨digs_top n, fun i _ => digs_get n i⟩
theorem lt_pow_of_div {n i : Nat} (h : n / 10 ^ i = 0) : n < 10 ^ i := by
  rcases Nat.lt_or_ge n (10 ^ i) with h' | h'
  · exact h'
  · have := Nat.div_pos h' (Nat.pow_pos (n := i) (show 0 < 10 by omega)); omega
theorem Is.eq_digs {l : List Int} {n : Nat} (h : Is l n) (hl : l.length = (Pure.digs n).length) : l = Pure.digs n := by
  apply List.ext_getElem? 
  intro i
  rcases Nat.lt_or_ge i l.length with hi | hi
  · have e1 := h.get i
    have e2 := digs_get n i
    rw [List.getD_eq_getElem?_getD, List.getElem?_eq_getElem hi] at e1
    rw [List.getD_eq_getElem?_getD, List.getElem?_eq_getElem (by omega)] at e2
    rw [List.getElem?_eq_getElem hi, List.getElem?_eq_getElem (by omega)]
    simp only [Option.getD_some] at e1 e2
    rw [e1, e2]
  · rw [List.getElem?_eq_none hi, List.getElem?_eq_none (by omega)]
/-- One digit more. -/
theorem snoc_get {out : List Int} {v : Nat} {i : Nat} (P : Nat → Int) (h : ∀ i, i < out.length → out.getD i 0 = P i) (hv : (v : Int) = P out.length) (hi : i < (out ++ [(v : Int)]).length) : (out ++ [(v : Int)]).getD i 0 = P i := by
  rw [List.length_append, List.length_singleton] at hi
  rw [List.getD_eq_getElem?_getD]
  rcases Nat.lt_or_ge i out.length with h' | h'
  · rw [List.getElem?_append_left h', ← List.getD_eq_getElem?_getD]; exact h i h'
  · have : i = out.length := by omega
    subst this
    rw [List.getElem?_append_right (Nat.le_refl _)]; simpa using hv

theorem together_is_l0 {la lb : List Int} {a b : Nat} (ha : Is la a) (hb : Is lb b) {M : Nat} (L1 : la.length ≤ M) (L2 : lb.length ≤ M) (L3 : M < 17592186044415) (m : Nat) : ∀ (c : Nat) (out : List Int), c ≤ 1 →
    a / 10 ^ out.length + b / 10 ^ out.length + c = (a + b) / 10 ^ out.length → (∀ i, i < out.length → out.getD i 0 = (((a + b) / 10 ^ i % 10 : Nat) : Int)) → out.length ≤ M + (1 - c) → 2 * (M - out.length) + c ≤ m →
    ∃ r, Is r (a + b) ∧ r.length ≤ M + 1 ∧ Ev (fun k => chordmailref03_together.l0 k la lb out c out.length) r := by
  induction m with
  | zero =>
    intro c out hc hs hg hlen hm
    have e1 : ¬ ((out.length : Nat) : Int) < (la.length : Int) := by omega
    have e2 : ¬ ((out.length : Nat) : Int) < (lb.length : Int) := by omega
    refine ⟨out, ⟨lt_pow_of_div ?_, hg⟩, by omega, ?_⟩
    · rw [← hs, ha.over (by omega), hb.over (by omega)]; omega
    · refine Ev.step (f := fun k => chordmailref03_together.j1 k la lb out c out.length (decide ((c : Int) > 0))) (fun k => by simp only [chordmailref03_together.l0]; rw [if_neg e1, if_neg e2]) ?_
      exact Ev.step (f := fun _ => some out) (fun k => by simp only [chordmailref03_together.j1]; rw [if_neg (by simp; omega)]) (Ev.now _)
  | succ m ih =>
    intro c out hc hs hg hlen hm
    have hgo : (out.length < la.length ∨ out.length < lb.length ∨ 0 < c) → ∃ r, Is r (a + b) ∧ r.length ≤ M + 1 ∧ Ev (fun k => chordmailref03_together.j1 k la lb out c out.length true) r := by
      intro hor
      have hA := ha.get out.length
      have hB := hb.get out.length
      have hover : la.length ≤ out.length → a / 10 ^ out.length = 0 := fun h => ha.over h
      have hover2 : lb.length ≤ out.length → b / 10 ^ out.length = 0 := fun h => hb.over h
      generalize hAe : a / 10 ^ out.length = A at *
      generalize hBe : b / 10 ^ out.length = B at *
      generalize hSe : (a + b) / 10 ^ out.length = S at *
      have hl : out.length < 17592186044415 := by omega
      obtain ⟨r, hr1, hr2, hr3⟩ := ih ((A % 10 + B % 10 + c) / 10) (out ++ [((S % 10 : Nat) : Int)]) (by omega)
        (by rw [List.length_append, List.length_singleton, div_pow_succ', div_pow_succ', div_pow_succ', hAe, hBe, hSe]; omega)
        (fun i hi => snoc_get (fun i => (((a + b) / 10 ^ i % 10 : Nat) : Int)) hg (by rw [hSe]) hi)
        (by simp only [List.length_append, List.length_singleton]; omega)
        (by simp only [List.length_append, List.length_singleton]; omega)
      refine ⟨r, hr1, hr2, ?_⟩
      refine Ev.step (fun k => ?_) hr3
      simp only [chordmailref03_together.j1, if_true]
      rw [digit_eq, digit_eq, hA, hB]
      simp only [Option.bind_some]
      rw [if_pos (by omega), wrap_id (a := ((A % 10 : Nat) : Int) + ((B % 10 : Nat) : Int)) (by omega) (by omega), wrap_id (a := ((A % 10 : Nat) : Int) + ((B % 10 : Nat) : Int) + (c : Int)) (by omega) (by omega)]
      rw [Int.tmod_eq_emod_of_nonneg (by omega), Int.tdiv_eq_ediv_of_nonneg (by omega), wrap_id (by omega) (by omega), wrap_id (a := ((out.length : Nat) : Int) + 1) (by omega) (by omega)]
      rw [show (((A % 10 : Nat) : Int) + ((B % 10 : Nat) : Int) + (c : Int)) % 10 = ((S % 10 : Nat) : Int) by omega, show (((A % 10 : Nat) : Int) + ((B % 10 : Nat) : Int) + (c : Int)) / 10 = (((A % 10 + B % 10 + c) / 10 : Nat) : Int) by omega]
      rw [List.length_append, List.length_singleton]
      rfl
    by_cases ca : out.length < la.length
    · obtain ⟨r, h1, h2, h3⟩ := hgo (.inl ca)
      exact ⟨r, h1, h2, Ev.step (fun k => by simp only [chordmailref03_together.l0]; rw [if_pos (by omega)]) h3⟩
    · by_cases cb : out.length < lb.length
      · obtain ⟨r, h1, h2, h3⟩ := hgo (.inr (.inl cb))
        exact ⟨r, h1, h2, Ev.step (fun k => by simp only [chordmailref03_together.l0]; rw [if_neg (by omega), if_pos (by omega)]) h3⟩
      · by_cases cc : 0 < c
        · obtain ⟨r, h1, h2, h3⟩ := hgo (.inr (.inr cc))
          exact ⟨r, h1, h2, Ev.step (fun k => by simp only [chordmailref03_together.l0]; rw [if_neg (by omega), if_neg (by omega), decide_eq_true (show (c : Int) > 0 by omega)]) h3⟩
        · refine ⟨out, ⟨lt_pow_of_div ?_, hg⟩, by omega, ?_⟩
          · rw [← hs, ha.over (by omega), hb.over (by omega)]; omega
          · refine Ev.step (f := fun k => chordmailref03_together.j1 k la lb out c out.length (decide ((c : Int) > 0))) (fun k => by simp only [chordmailref03_together.l0]; rw [if_neg (by omega), if_neg (by omega)]) ?_
            exact Ev.step (f := fun _ => some out) (fun k => by simp only [chordmailref03_together.j1]; rw [if_neg (by simp; omega)]) (Ev.now _)
theorem together_is {la lb : List Int} {a b : Nat} (ha : Is la a) (hb : Is lb b) {M : Nat} (L1 : la.length ≤ M) (L2 : lb.length ≤ M) (L3 : M < 17592186044415) :
    ∃ r, Is r (a + b) ∧ r.length ≤ M + 1 ∧ Ev (fun k => chordmailref03_together.f k la lb) r := by
  obtain ⟨r, h1, h2, h3⟩ := together_is_l0 ha hb L1 L2 L3 _ 0 [] (by omega) (by simp) (by simp) (by simp) (Nat.le_refl _)
  exact ⟨r, h1, h2, h3⟩

theorem div_lt_iff {a b n : Nat} (h : a / n ≠ b / n) : a / n < b / n ↔ a < b := by
  constructor
  · intro h'
    rcases Nat.lt_or_ge a b with h2 | h2
    · exact h2
    · have := Nat.div_le_div_right (c := n) h2; omega
  · intro h'
    have := Nat.div_le_div_right (c := n) (Nat.le_of_lt h'); omega
theorem less_l0 {a b : Nat} (n : Nat) : n ≤ (digs a).length → n ≤ (digs b).length → n < 9223372036854775807 → a / 10 ^ n = b / 10 ^ n → Ev (fun k => chordmailref03_less.l0 k (digs a) (digs b) ((n : Int) - 1)) (decide (a < b)) := by
  induction n with
  | zero =>
    intro _ _ _ h
    have : a = b := by simpa using h
    subst this
    exact Ev.step (f := fun _ => some _) (fun k => by simp only [chordmailref03_less.l0]; rw [if_neg (by omega)]; simp) (Ev.now _)
  | succ n ih =>
    intro h1 h2 h3 h
    have ga := digs_get a n
    have gb := digs_get b n
    have e : ((n + 1 : Nat) : Int) - 1 = (n : Int) := by omega
    rw [e]
    have ra : rd (digs a) (n : Int) = ((a / 10 ^ n % 10 : Nat) : Int) := by simpa [rd] using ga
    have rb : rd (digs b) (n : Int) = ((b / 10 ^ n % 10 : Nat) : Int) := by simpa [rd] using gb
    rw [div_pow_succ', div_pow_succ'] at h
    by_cases hd : a / 10 ^ n = b / 10 ^ n
    · refine Ev.step (fun k => ?_) (ih (by omega) (by omega) (by omega) hd)
      simp only [chordmailref03_less.l0]
      rw [if_pos (by omega), if_pos (by omega), if_pos (by omega), if_pos (by omega), ra, rb, if_pos (by rw [hd]), wrap_id (by omega) (by omega)]
    · refine Ev.step (f := fun _ => some _) (fun k => ?_) (Ev.now _)
      simp only [chordmailref03_less.l0]
      have hx := div_lt_iff hd
      rw [if_pos (by omega), if_pos (by omega), if_pos (by omega), if_pos (by omega), ra, rb, if_neg (by omega)]
      congr 1
      exact decide_eq_decide.2 (by rw [← hx]; omega)
theorem less_eq {a b : Nat} (h1 : (digs a).length < 9223372036854775807) (h2 : (digs b).length < 9223372036854775807) : Ev (fun k => chordmailref03_less.f k (digs a) (digs b)) (decide (a < b)) := by
  have big : ∀ {a b : Nat}, (digs a).length < (digs b).length → a < b := fun {a b} h => by
    have h1 := digs_top a
    have h2 := (digs_lt b (digs a).length).1 h
    rcases Nat.lt_or_ge a b with h' | h'
    · exact h'
    · have := Nat.div_eq_of_lt (Nat.lt_of_le_of_lt h' h1); omega
  by_cases h : (digs a).length = (digs b).length
  · refine Ev.congr (f := fun k => chordmailref03_less.l0 k (digs a) (digs b) (((digs a).length : Int) - 1)) (fun k => ?_) (less_l0 _ (Nat.le_refl _) (by omega) (by omega) ?_)
    · unfold chordmailref03_less.f
      rw [if_pos (by omega), wrap_id (by omega) (by omega)]
    · rw [Nat.div_eq_of_lt (digs_top a), h, Nat.div_eq_of_lt (digs_top b)]
  · refine Ev.congr (f := fun _ => some _) (fun k => ?_) (Ev.now _)
    unfold chordmailref03_less.f
    rw [if_neg (by omega)]
    congr 1
    refine decide_eq_decide.2 ⟨fun h' => big (by omega), fun h' => ?_⟩
    rcases Nat.lt_or_ge (digs a).length (digs b).length with h2 | h2
    · omega
    · have := big (a := b) (b := a) (by omega); omega

theorem cut_is {n : Nat} (m : Nat) : ∀ (l : List Int), l.length = m → m < 9223372036854775807 → Is l n → Ev (fun k => chordmailref03_cut.f k l) (digs n) := by
  induction m with
  | zero =>
    intro l hl _ h
    have : l = [] := List.eq_nil_of_length_eq_zero hl
    subst this
    have : n = 0 := by have := h.1; simp at this; exact this
    subst this
    rw [digs_zero]
    exact Ev.step (f := fun _ => some _) (fun k => by simp [chordmailref03_cut.f, chordmailref03_cut.l0]) (Ev.now _)
  | succ m ih =>
    intro l hl hm h
    have hg := h.get m
    have hr : rd l (m : Int) = ((n / 10 ^ m : Nat) : Int) := by
      have h1 := h.1
      rw [hl, Nat.pow_succ] at h1
      have : n / 10 ^ m < 10 := by rw [Nat.div_lt_iff_lt_mul (Nat.pow_pos (by omega))]; omega
      rw [Nat.mod_eq_of_lt this] at hg
      simpa [rd] using hg
    have e : wrap64 ((l.length : Int) - 1) = (m : Int) := by rw [wrap_id (by omega) (by omega)]; omega
    by_cases h0 : n / 10 ^ m = 0
    · refine Ev.step (fun k => ?_) (ih (l.take m) (by simp; omega) (by omega) ⟨by simp [hl]; exact lt_pow_of_div h0, fun i hi => ?_⟩)
      · simp only [chordmailref03_cut.f, chordmailref03_cut.l0]
        rw [if_pos (by omega), e, if_pos (by omega), if_pos (by omega), hr, if_pos (by omega), if_pos (by omega)]
        simp
      · have hi' : i < m := by simp at hi; omega
        rw [← h.get i, List.getD_eq_getElem?_getD, List.getD_eq_getElem?_getD, List.getElem?_take_of_lt hi']
    · have hlen : l.length = (digs n).length := by
        have h1 := (digs_lt n m).2 (Nat.pos_of_ne_zero h0)
        have h2 := (digs_lt n (m + 1)).1
        have h3 := h.over (i := m + 1) (by omega)
        omega
      rw [← h.eq_digs hlen]
      refine Ev.step (f := fun _ => some _) (fun k => ?_) (Ev.now _)
      simp only [chordmailref03_cut.f, chordmailref03_cut.l0]
      rw [if_pos (by omega), e, if_pos (by omega), if_pos (by omega), hr, if_neg (by omega)]

set_option maxHeartbeats 2000000 in
theorem apart_l0 {a b : Nat} (hab : b ≤ a) (L : (digs a).length < 17592186044416) (m : Nat) : ∀ (c : Nat) (out : List Int), c ≤ 1 →
    a / 10 ^ out.length = b / 10 ^ out.length + (a - b) / 10 ^ out.length + c → (∀ i, i < out.length → out.getD i 0 = (((a - b) / 10 ^ i % 10 : Nat) : Int)) → out.length + m = (digs a).length →
    Ev (fun k => chordmailref03_apart.l0 k (digs a) (digs b) out c out.length) (digs (a - b)) := by
  induction m with
  | zero =>
    intro c out hc hs hg hm
    refine Ev.step (f := fun k => (chordmailref03_cut.f k out).bind fun t133 => (some t133)) (fun k => by simp only [chordmailref03_apart.l0]; rw [if_neg (by omega)]) ?_
    refine Ev.bind (f := fun _ t => some t) (cut_is (n := a - b) _ out rfl (by omega) ⟨?_, hg⟩) (Ev.now _)
    exact Nat.lt_of_le_of_lt (Nat.sub_le a b) (by have := digs_top a; rwa [show (digs a).length = out.length by omega] at this)
  | succ m ih =>
    intro c out hc hs hg hm
    have ga := digs_get a out.length
    have gb := digs_get b out.length
    have ra : rd (digs a) (out.length : Int) = ((a / 10 ^ out.length % 10 : Nat) : Int) := by simpa [rd] using ga
    generalize hAe : a / 10 ^ out.length = A at *
    generalize hBe : b / 10 ^ out.length = B at *
    generalize hSe : (a - b) / 10 ^ out.length = S at *
    have next := fun (c' : Nat) (h1 : c' ≤ 1) (h2 : A / 10 = B / 10 + S / 10 + c') => ih c' (out ++ [((S % 10 : Nat) : Int)]) h1
        (by rw [List.length_append, List.length_singleton, div_pow_succ', div_pow_succ', div_pow_succ', hAe, hBe, hSe]; exact h2)
        (fun i hi => snoc_get (fun i => (((a - b) / 10 ^ i % 10 : Nat) : Int)) hg (by rw [hSe]) hi)
        (by simp only [List.length_append, List.length_singleton]; omega)
    have el : wrap64 ((out.length : Int) + 1) = ((out.length + 1 : Nat) : Int) := by rw [wrap_id (by omega) (by omega)]; omega
    have hll : (out ++ [((S % 10 : Nat) : Int)]).length = out.length + 1 := by rw [List.length_append, List.length_singleton]
    have i0 : out.length < (digs a).length := by omega
    have i1 : ((out.length : Nat) : Int) < ((digs a).length : Int) := Int.ofNat_lt.2 i0
    have i2 : (0 : Int) ≤ ((out.length : Nat) : Int) := Int.natCast_nonneg _
    have i3 : out.length < 17592186044416 := Nat.lt_trans i0 L
    rw [hll] at next
    have k1 : ((A % 10 : Nat) : Int) - ((B % 10 : Nat) : Int) - (c : Int) < 0 → ((A % 10 : Nat) : Int) - ((B % 10 : Nat) : Int) - (c : Int) + 10 = ((S % 10 : Nat) : Int) ∧ A / 10 = B / 10 + S / 10 + 1 := by omega
    have k2 : ¬ ((A % 10 : Nat) : Int) - ((B % 10 : Nat) : Int) - (c : Int) < 0 → ((A % 10 : Nat) : Int) - ((B % 10 : Nat) : Int) - (c : Int) = ((S % 10 : Nat) : Int) ∧ A / 10 = B / 10 + S / 10 + 0 := by omega
    have b1 : 0 ≤ ((A % 10 : Nat) : Int) ∧ ((A % 10 : Nat) : Int) < 10 := by omega
    have b2 : 0 ≤ ((B % 10 : Nat) : Int) ∧ ((B % 10 : Nat) : Int) < 10 := by omega
    clear hs hg ih hAe hBe hSe hll
    generalize ((A % 10 : Nat) : Int) = u at *
    generalize ((B % 10 : Nat) : Int) = v at *
    generalize ((S % 10 : Nat) : Int) = t at *
    have e0 : wrap64 (u - v) = u - v := wrap_id (by omega) (by omega)
    have e1 : wrap64 (u - v - (c : Int)) = u - v - (c : Int) := wrap_id (by omega) (by omega)
    have e2 : wrap64 (u - v - (c : Int) + 10) = u - v - (c : Int) + 10 := wrap_id (by omega) (by omega)
    by_cases hneg : u - v - (c : Int) < 0
    · refine Ev.step (fun k => ?_) (next 1 (Nat.le_refl _) (k1 hneg).2)
      simp only [chordmailref03_apart.l0]
      rw [if_pos i1, if_pos i2, digit_eq, gb, ra]
      simp only [Option.bind_some]
      rw [e0, e1, if_pos hneg, if_pos i3, el, e2, (k1 hneg).1]
      rfl
    · refine Ev.step (fun k => ?_) (next 0 (by omega) (k2 hneg).2)
      simp only [chordmailref03_apart.l0]
      rw [if_pos i1, if_pos i2, digit_eq, gb, ra]
      simp only [Option.bind_some]
      rw [e0, e1, if_neg hneg, if_pos i3, el, (k2 hneg).1]
      rfl
theorem apart_eq {a b : Nat} (hab : b ≤ a) (L : (digs a).length < 17592186044416) : Ev (fun k => chordmailref03_apart.f k (digs a) (digs b)) (digs (a - b)) :=
  apart_l0 hab L (digs a).length 0 [] (by omega) (by simp; omega) (by simp) (by simp)

/-! ### Numbers -/
theorem digs_short {n : Nat} (h : n < 10 ^ 60) : (digs n).length ≤ 60 := digs_len h
theorem num_add_eq {x y : Int} (hx : x.natAbs < 10 ^ 59) (hy : y.natAbs < 10 ^ 59) :
    Ev (fun k => chordmailref03_Num_Add.f k (decide (x < 0)) (digs x.natAbs) (decide (y < 0)) (digs y.natAbs)) (decide (x + y < 0), digs (x + y).natAbs) := by
  have lx : (digs x.natAbs).length ≤ 59 := digs_len hx
  have ly : (digs y.natAbs).length ≤ 59 := digs_len hy
  by_cases hs : (decide (x < 0) == decide (y < 0)) = true
  · have hs' : (x < 0) ↔ (y < 0) := by simpa using hs
    refine Ev.congr (f := fun k => (chordmailref03_together.f k (digs x.natAbs) (digs y.natAbs)).bind fun t => some (decide (x < 0), t)) (fun k => by simp only [chordmailref03_Num_Add.f]; rw [if_pos hs]) ?_
    have e : digs (x + y).natAbs = digs (x.natAbs + y.natAbs) := by congr 1; omega
    have e2 : decide (x + y < 0) = decide (x < 0) := decide_eq_decide.2 (by omega)
    rw [e, e2]
    exact Ev.bind (f := fun _ t => some (decide (x < 0), t)) (together_eq (N := 59) hx hy (by omega)) (Ev.now _)
  · have hs' : ¬ ((x < 0) ↔ (y < 0)) := fun h => hs (by simpa using h)
    refine Ev.congr (f := fun k => (chordmailref03_less.f k (digs x.natAbs) (digs y.natAbs)).bind fun t142 => (if t142 = true then ((chordmailref03_apart.f k (digs y.natAbs) (digs x.natAbs)).bind fun t143 => (some (decide (y < 0), t143))) else ((chordmailref03_apart.f k (digs x.natAbs) (digs y.natAbs)).bind fun t146 => (if decide (x < 0) = true then (some (decide ((t146.length : Int) > 0), t146)) else (some (false, t146)))))) (fun k => by simp only [chordmailref03_Num_Add.f]; rw [if_neg hs]) ?_
    refine Ev.bind (f := fun k t142 => (if t142 = true then ((chordmailref03_apart.f k (digs y.natAbs) (digs x.natAbs)).bind fun t143 => (some (decide (y < 0), t143))) else ((chordmailref03_apart.f k (digs x.natAbs) (digs y.natAbs)).bind fun t146 => (if decide (x < 0) = true then (some (decide ((t146.length : Int) > 0), t146)) else (some (false, t146)))))) (less_eq (by omega) (by omega)) ?_
    by_cases hl : x.natAbs < y.natAbs
    · rw [decide_eq_true hl]
      simp only [if_true]
      have e : digs (x + y).natAbs = digs (y.natAbs - x.natAbs) := by congr 1; omega
      have e2 : decide (x + y < 0) = decide (y < 0) := decide_eq_decide.2 (by omega)
      rw [e, e2]
      exact Ev.bind (f := fun _ t => some (decide (y < 0), t)) (apart_eq (a := y.natAbs) (b := x.natAbs) (by omega) (by omega)) (Ev.now _)
    · rw [decide_eq_false hl]
      simp only [Bool.false_eq_true, if_false]
      have e : digs (x + y).natAbs = digs (x.natAbs - y.natAbs) := by congr 1; omega
      rw [e]
      refine Ev.bind (f := fun _ t => if decide (x < 0) = true then (some (decide ((t.length : Int) > 0), t)) else (some (false, t))) (apart_eq (a := x.natAbs) (b := y.natAbs) (by omega) (by omega)) ?_
      refine Ev.congr (f := fun _ => some _) (fun k => ?_) (Ev.now _)
      have hn := digs_nil (x.natAbs - y.natAbs)
      by_cases hx0 : x < 0
      · rw [decide_eq_true hx0, if_pos rfl]
        congr 2
        exact decide_eq_decide.2 (by omega)
      · rw [decide_eq_false hx0, if_neg (by simp)]
        congr 2
        exact (decide_eq_false (by omega)).symm
theorem int_l0 {x : Int} (hx : -9223372036854775808 ≤ x ∧ x ≤ 9223372036854775807) (n : Nat) : n ≤ (digs x.natAbs).length → n ≤ 60 →
    Ev (fun k => chordmailref03_Num_Int.l0 k ((x.natAbs / 10 ^ n : Nat) : Int) ((n : Int) - 1) (decide (x < 0)) (digs x.natAbs)) (x, 0) := by
  induction n with
  | zero =>
    intro _ _
    refine Ev.step (f := fun _ => some (x, 0)) (fun k => ?_) (Ev.now _)
    simp only [chordmailref03_Num_Int.l0]
    rw [if_neg (by omega)]
    by_cases hx0 : x < 0
    · rw [decide_eq_true hx0, if_pos rfl, IntKind.wrap_u64]
      congr 2
      simp only [Nat.pow_zero, Nat.div_one]
      unfold wrap64; omega
    · rw [decide_eq_false hx0, if_neg (by simp)]
      congr 2
      simp only [Nat.pow_zero, Nat.div_one]
      unfold wrap64; omega
  | succ n ih =>
    intro h1 h2
    have ga := digs_get x.natAbs n
    have ra : rd (digs x.natAbs) (n : Int) = ((x.natAbs / 10 ^ n % 10 : Nat) : Int) := by simpa [rd] using ga
    have e : ((n + 1 : Nat) : Int) - 1 = (n : Int) := by omega
    rw [e, div_pow_succ']
    have i1 : (0 : Int) ≤ (n : Int) := Int.natCast_nonneg _
    have i2 : (n : Int) < ((digs x.natAbs).length : Int) := Int.ofNat_lt.2 (by omega)
    have hle : x.natAbs / 10 ^ n ≤ 9223372036854775808 := Nat.le_trans (Nat.div_le_self _ _) (by omega)
    have next := ih (by omega) (by omega)
    refine Ev.step (fun k => ?_) next
    simp only [chordmailref03_Num_Int.l0]
    rw [if_pos i1, if_pos i1, if_pos i2, ra, wrap_id (a := (n : Int) - 1) (by omega) (by omega)]
    have key : IntKind.u64.wrap ((IntKind.u64.wrap (10 * ((x.natAbs / 10 ^ n / 10 : Nat) : Int))) + (IntKind.u64.wrap ((x.natAbs / 10 ^ n % 10 : Nat) : Int))) = ((x.natAbs / 10 ^ n : Nat) : Int) := by
      generalize x.natAbs / 10 ^ n = v at *
      clear next ra ga ih
      simp only [IntKind.wrap_u64]
      omega
    rw [key]
theorem digs_one : digs 1 = [1] := by rw [digs_pos (by omega)]; simp [digs_zero]
theorem num_int_eq {x : Int} (hx : x.natAbs < 10 ^ 59) : Ev (fun k => chordmailref03_Num_Int.f k (decide (x < 0)) (digs x.natAbs)) (fit x) := by
  have lx : (digs x.natAbs).length ≤ 59 := digs_len hx
  have hl0 : (digs x.natAbs).length ≤ 60 := by omega
  have hj : ∀ (M : Nat), (digs M).length ≤ 60 → (M < x.natAbs ↔ ¬ (-9223372036854775808 ≤ x ∧ x ≤ 9223372036854775807)) → Ev (fun k => chordmailref03_Num_Int.j0 k (digs M) (decide (x < 0)) (digs x.natAbs)) (fit x) := fun M hM hMx => by
    refine Ev.step (f := fun k => (chordmailref03_less.f k (digs M) (digs x.natAbs)).bind fun t160 => (if t160 = true then (some (0, 30)) else (chordmailref03_Num_Int.l0 k 0 (wrap64 (((digs x.natAbs).length : Int) - 1)) (decide (x < 0)) (digs x.natAbs)))) (fun k => by simp only [chordmailref03_Num_Int.j0]) ?_
    refine Ev.bind (f := fun k t160 => (if t160 = true then (some (0, 30)) else (chordmailref03_Num_Int.l0 k 0 (wrap64 (((digs x.natAbs).length : Int) - 1)) (decide (x < 0)) (digs x.natAbs)))) (less_eq (by omega) (by omega)) ?_
    by_cases h : M < x.natAbs
    · rw [decide_eq_true h]
      simp only [if_true]
      rw [fit_out (by have := hMx.1 h; omega)]
      exact Ev.now _
    · rw [decide_eq_false h]
      have hb : -9223372036854775808 ≤ x ∧ x ≤ 9223372036854775807 := by
        rcases Decidable.em (-9223372036854775808 ≤ x ∧ x ≤ 9223372036854775807) with h' | h'
        · exact h'
        · exact absurd (hMx.2 h') h
      rw [fit_in hb.1 hb.2]
      refine Ev.congr (fun k => ?_) (int_l0 hb (digs x.natAbs).length (Nat.le_refl _) hl0)
      rw [if_neg (by simp), Nat.div_eq_of_lt (digs_top x.natAbs), wrap_id (by omega) (by omega)]
      rfl
  have lm : (digs 9223372036854775807).length ≤ 60 := digs_len (by decide)
  have lm1 : (digs 9223372036854775808).length ≤ 60 := digs_len (by decide)
  refine Ev.bind (f := fun k (bt150 : Bool × List Int) => (if decide (x < 0) = true then ((chordmailref03_together.f k bt150.2 (([1] : List Int))).bind fun t157 => (chordmailref03_Num_Int.j0 k t157 (decide (x < 0)) (digs x.natAbs))) else (chordmailref03_Num_Int.j0 k bt150.2 (decide (x < 0)) (digs x.natAbs)))) (of_eq (x := 9223372036854775807) (by omega) (by omega)) ?_
  by_cases hx0 : x < 0
  · have hd := decide_eq_true hx0
    refine Ev.congr (f := fun k => (chordmailref03_together.f k (digs 9223372036854775807) (digs 1)).bind fun t157 => (chordmailref03_Num_Int.j0 k t157 (decide (x < 0)) (digs x.natAbs))) (fun k => by rw [if_pos hd, digs_one]; rfl) ?_
    refine Ev.bind (f := fun k t157 => chordmailref03_Num_Int.j0 k t157 (decide (x < 0)) (digs x.natAbs)) (together_eq (N := 20) (by decide) (by decide) (by omega)) ?_
    exact hj 9223372036854775808 lm1 (by omega)
  · have hd := decide_eq_false hx0
    refine Ev.congr (fun k => by rw [if_neg (by rw [hd]; simp)]; rfl) (hj 9223372036854775807 lm (by omega))

theorem pow59 : (10 : Nat) ^ 59 = 100000000000000000000000000000000000000000000000000000000000 := by decide +kernel
theorem step10 {P u v c : Nat} (h : 10 * u + v + c = P) : P % 10 = (v + c) % 10 ∧ u + (v + c) / 10 = P / 10 := by omega
theorem mul_round {A P d c L kk m : Nat} (hd9 : d ≤ 9) (hc : c ≤ 8) (hP : A * d + c = P) (hA : L ≤ kk → A = 0) (hor : kk < L ∨ 0 < c) (hk : kk ≤ L + (1 - min c 1)) (hm : 2 * (L - kk) + min c 1 ≤ m + 1) :
    ∃ v, A % 10 * d = v ∧ v ≤ 81 ∧ P % 10 = (v + c) % 10 ∧ A / 10 * d + (v + c) / 10 = P / 10 ∧ (v + c) / 10 ≤ 8 ∧ kk + 1 ≤ L + (1 - min ((v + c) / 10) 1) ∧ 2 * (L - (kk + 1)) + min ((v + c) / 10) 1 ≤ m := by
  have hq : A % 10 * d ≤ 81 := Nat.mul_le_mul (show A % 10 ≤ 9 by omega) hd9
  have hAd : A * d = 10 * (A / 10 * d) + A % 10 * d := by
    conv => lhs; rw [← Nat.div_add_mod A 10, Nat.add_mul, Nat.mul_assoc]
  have hA0 : L ≤ kk → A % 10 * d = 0 := fun h => by rw [hA h]; simp
  have hPq := step10 (P := P) (u := A / 10 * d) (v := A % 10 * d) (c := c) (by rw [← hAd]; exact hP)
  refine ⟨_, rfl, hq, hPq.1, hPq.2, ?_⟩
  clear hPq hAd hP hA
  generalize A % 10 * d = v at *
  rcases Nat.lt_or_ge kk L with h | h
  · omega
  · have := hA0 h; omega
theorem digit_step {v c P : Nat} (hv : v ≤ 81) (hc : c ≤ 8) (h : P % 10 = (v + c) % 10) : Int.tmod (wrap64 (((v : Nat) : Int) + (c : Int))) 10 = ((P % 10 : Nat) : Int) ∧ wrap64 (Int.tdiv (wrap64 (((v : Nat) : Int) + (c : Int))) 10) = (((v + c) / 10 : Nat) : Int) := by
  have e1 : wrap64 (((v : Nat) : Int) + (c : Int)) = ((v + c : Nat) : Int) := by rw [wrap_id (by omega) (by omega)]; omega
  rw [e1, Int.tmod_eq_emod_of_nonneg (Int.natCast_nonneg _), Int.tdiv_eq_ediv_of_nonneg (Int.natCast_nonneg _)]
  refine ⟨by omega, ?_⟩
  rw [wrap_id (by omega) (by omega)]; omega
theorem cast_mul {g d v : Nat} (h : g * d = v) (hv : v ≤ 81) : wrap64 ((g : Int) * (d : Int)) = (v : Int) := by
  rw [← Int.natCast_mul, h]; exact wrap_id (by omega) (by omega)
theorem cast_succ {n : Nat} (h : n ≤ 1000) : wrap64 ((n : Int) + 1) = ((n + 1 : Nat) : Int) := by rw [wrap_id (by omega) (by omega)]; omega
theorem row_done {X d i kk : Nat} {row : List Int} (hl : row.length = i + kk) (hA : X / 10 ^ kk = 0) (hP : X / 10 ^ kk * d + 0 = X * d / 10 ^ kk) : X * d * 10 ^ i < 10 ^ row.length := by
  rw [hl, Nat.pow_add, Nat.mul_comm (10 ^ i)]
  refine Nat.mul_lt_mul_of_pos_right (lt_pow_of_div ?_) (Nat.pow_pos (by decide))
  rw [← hP, hA]; simp
theorem row_at {X d i kk : Nat} {row : List Int} (hl : row.length = i + kk) : X * d * 10 ^ i / 10 ^ row.length = X * d / 10 ^ kk := by
  rw [hl, Nat.pow_add, Nat.mul_comm (10 ^ i), Nat.mul_div_mul_right _ _ (Nat.pow_pos (by decide))]
theorem mul_end {X Y i : Nat} (all : List Int) (sx sy : Bool) {res : Bool × List Int}
    (hrest : ∀ row, Is row (X * (Y / 10 ^ i % 10) * 10 ^ i) → row.length ≤ i + (digs X).length + 1 → Ev (fun k => (chordmailref03_together.f k all row).bind fun t223 => (chordmailref03_Num_Mul.l0 k t223 (wrap64 ((i : Int) + 1)) sx (digs X) sy (digs Y))) res)
    (kk c : Nat) (row : List Int) (hl : row.length = i + kk) (hg : ∀ j, j < row.length → row.getD j 0 = ((X * (Y / 10 ^ i % 10) * 10 ^ i / 10 ^ j % 10 : Nat) : Int))
    (hP : X / 10 ^ kk * (Y / 10 ^ i % 10) + c = X * (Y / 10 ^ i % 10) / 10 ^ kk) (hk : kk ≤ (digs X).length + 1) (c1 : ¬ kk < (digs X).length) (c0 : c = 0) :
    Ev (fun k => chordmailref03_Num_Mul.l2 k all (i : Int) row (c : Int) (kk : Int) sx (digs X) sy (digs Y)) res := by
  subst c0
  refine Ev.step (fun k => ?_) (hrest row ⟨row_done hl ((Is.digs X).over (Nat.le_of_not_lt c1)) hP, hg⟩ (by rw [hl, Nat.add_assoc]; exact Nat.add_le_add_left hk i))
  simp only [chordmailref03_Num_Mul.l2]
  rw [if_neg (fun h => c1 (Int.ofNat_lt.1 h)), if_neg (by simp)]
theorem mul_l2 {X Y i : Nat} (hi : i < (digs Y).length) (LX : (digs X).length ≤ 60) (LY : (digs Y).length ≤ 60) (all : List Int) (sx sy : Bool) {res : Bool × List Int}
    (hrest : ∀ row, Is row (X * (Y / 10 ^ i % 10) * 10 ^ i) → row.length ≤ i + (digs X).length + 1 → Ev (fun k => (chordmailref03_together.f k all row).bind fun t223 => (chordmailref03_Num_Mul.l0 k t223 (wrap64 ((i : Int) + 1)) sx (digs X) sy (digs Y))) res) (m : Nat) :
    ∀ (kk c : Nat) (row : List Int), row.length = i + kk → c ≤ 8 → (∀ j, j < row.length → row.getD j 0 = ((X * (Y / 10 ^ i % 10) * 10 ^ i / 10 ^ j % 10 : Nat) : Int)) →
    X / 10 ^ kk * (Y / 10 ^ i % 10) + c = X * (Y / 10 ^ i % 10) / 10 ^ kk → kk ≤ (digs X).length + (1 - min c 1) → 2 * ((digs X).length - kk) + min c 1 ≤ m →
    Ev (fun k => chordmailref03_Num_Mul.l2 k all (i : Int) row (c : Int) (kk : Int) sx (digs X) sy (digs Y)) res := by
  have gd := digs_get Y i
  have rdY : rd (digs Y) (i : Int) = ((Y / 10 ^ i % 10 : Nat) : Int) := by simpa [rd] using gd
  have hd9 : Y / 10 ^ i % 10 ≤ 9 := Nat.le_of_lt_succ (Nat.mod_lt _ (by decide))
  have i1 : (0 : Int) ≤ (i : Int) := Int.natCast_nonneg _
  have i2 : (i : Int) < ((digs Y).length : Int) := Int.ofNat_lt.2 hi
  have hi60 : i < 60 := Nat.lt_of_lt_of_le hi LY
  clear gd
  induction m with
  | zero =>
    intro kk c row hl hc hg hP hk hm
    exact mul_end all sx sy hrest kk c row hl hg hP (by clear hP hg hrest rdY hd9; omega) (by clear hP hg hrest rdY hd9; omega) (by clear hP hg hrest rdY hd9; omega)
  | succ m ih =>
    intro kk c row hl hc hg hP hk hm
    have hstep : (kk < (digs X).length ∨ 0 < c) → Ev (fun k => (chordmailref03_digit.f (digs X) (kk : Int)).bind fun t213 => (if (0 : Int) ≤ (i : Int) then (if (i : Int) < ((digs Y).length : Int) then (if row.length < 17592186044416 then (chordmailref03_Num_Mul.l2 k all (i : Int) (row ++ [Int.tmod (wrap64 ((wrap64 (t213 * (rd (digs Y) (i : Int)))) + (c : Int))) 10]) (wrap64 (Int.tdiv (wrap64 ((wrap64 (t213 * (rd (digs Y) (i : Int)))) + (c : Int))) 10)) (wrap64 ((kk : Int) + 1)) sx (digs X) sy (digs Y)) else (none)) else (none)) else (none))) res := fun hor => by
      have gx := digs_get X kk
      obtain ⟨v, hv, v81, p1, p2, c8, k1, k2⟩ := mul_round (L := (digs X).length) hd9 hc hP (fun h => (Is.digs X).over h) hor hk hm
      have r3 : row.length < 17592186044416 := by clear hP hg hrest rdY hd9 p1 p2 hv ih gx; omega
      have kk1 : kk ≤ 1000 := by clear hP hg hrest rdY hd9 p1 p2 hv ih gx; omega
      have lr : (row ++ [((X * (Y / 10 ^ i % 10) / 10 ^ kk % 10 : Nat) : Int)]).length = i + (kk + 1) := by rw [List.length_append, List.length_singleton, hl]; rfl
      have next := ih (kk + 1) ((v + c) / 10) (row ++ [((X * (Y / 10 ^ i % 10) / 10 ^ kk % 10 : Nat) : Int)]) lr c8
        (fun j hj => snoc_get (fun j => ((X * (Y / 10 ^ i % 10) * 10 ^ i / 10 ^ j % 10 : Nat) : Int)) hg (by rw [row_at hl]) hj)
        (by rw [div_pow_succ', div_pow_succ']; exact p2) k1 k2
      refine Ev.congr (fun k => ?_) next
      obtain ⟨s1, s2⟩ := digit_step v81 hc p1
      rw [digit_eq, gx]
      simp only [Option.bind_some]
      rw [if_pos i1, if_pos i2, if_pos r3, rdY, cast_mul hv v81, s1, s2, cast_succ kk1]
    by_cases ca : kk < (digs X).length
    · refine Ev.step (fun k => ?_) (hstep (.inl ca))
      simp only [chordmailref03_Num_Mul.l2]
      rw [if_pos (Int.ofNat_lt.2 ca)]
    · by_cases cc : 0 < c
      · refine Ev.step (fun k => ?_) (hstep (.inr cc))
        simp only [chordmailref03_Num_Mul.l2]
        rw [if_neg (fun h => ca (Int.ofNat_lt.1 h)), if_pos (show (c : Int) > 0 from Int.natCast_pos.2 cc)]
      · exact mul_end all sx sy hrest kk c row hl hg hP (by clear hP hg hrest rdY hd9 hstep ih; omega) ca (Nat.eq_zero_of_not_pos cc)
theorem mul_l1 {X Y i : Nat} (hi : i < (digs Y).length) (LX : (digs X).length ≤ 60) (LY : (digs Y).length ≤ 60) (all : List Int) (sx sy : Bool) {res : Bool × List Int}
    (hrest : ∀ row, Is row (X * (Y / 10 ^ i % 10) * 10 ^ i) → row.length ≤ i + (digs X).length + 1 → Ev (fun k => (chordmailref03_together.f k all row).bind fun t223 => (chordmailref03_Num_Mul.l0 k t223 (wrap64 ((i : Int) + 1)) sx (digs X) sy (digs Y))) res) (m : Nat) :
    ∀ (kk : Nat), kk + m = i → Ev (fun k => chordmailref03_Num_Mul.l1 k all (i : Int) (List.replicate kk 0) (kk : Int) sx (digs X) sy (digs Y)) res := by
  induction m with
  | zero =>
    intro kk hk
    have hk' : kk = i := by omega
    subst hk'
    refine Ev.step (fun k => ?_) (mul_l2 hi LX LY all sx sy hrest _ 0 0 (List.replicate kk 0) (by simp) (by omega) ?_ (by simp) (by omega) (Nat.le_refl _))
    · simp only [chordmailref03_Num_Mul.l1]
      rw [if_neg (by omega)]
      rfl
    · intro j hj
      have hj' : j < kk := by simpa using hj
      have e : X * (Y / 10 ^ kk % 10) * 10 ^ kk / 10 ^ j % 10 = 0 := by
        obtain ⟨t, rfl⟩ : ∃ t, kk = j + (t + 1) := ⟨kk - j - 1, by omega⟩
        rw [show 10 ^ (j + (t + 1)) = 10 ^ t * 10 * 10 ^ j from by rw [Nat.pow_add, Nat.pow_succ, Nat.mul_comm], ← Nat.mul_assoc, Nat.mul_div_cancel _ (Nat.pow_pos (by omega)), ← Nat.mul_assoc, Nat.mul_mod_left]
      rw [e, List.getD_eq_getElem?_getD, List.getElem?_replicate_of_lt hj']; rfl
  | succ m ih =>
    intro kk hk
    refine Ev.step (fun k => ?_) (ih (kk + 1) (by omega))
    simp only [chordmailref03_Num_Mul.l1]
    rw [if_pos (by omega), if_pos (by simp; omega), wrap_id (by omega) (by omega), List.replicate_succ']
    rfl
theorem mul_l0 {X Y : Nat} (LX : (digs X).length ≤ 60) (LY : (digs Y).length ≤ 60) (sx sy : Bool) (m : Nat) : ∀ (i : Nat) (all : List Int), i + m = (digs Y).length → Is all (X * (Y % 10 ^ i)) → all.length ≤ (digs X).length + 2 + i →
    Ev (fun k => chordmailref03_Num_Mul.l0 k all (i : Int) sx (digs X) sy (digs Y)) (if 0 < X * Y then (sx != sy) else false, digs (X * Y)) := by
  induction m with
  | zero =>
    intro i all hi hall hlen
    have e : Y % 10 ^ i = Y := Nat.mod_eq_of_lt (by have := digs_top Y; rwa [show (digs Y).length = i by omega] at this)
    rw [e] at hall
    refine Ev.step (f := fun k => (chordmailref03_cut.f k all).bind fun t207 => (if (t207.length : Int) > 0 then (some ((sx != sy), t207)) else (some (false, t207)))) (fun k => by simp only [chordmailref03_Num_Mul.l0]; rw [if_neg (by omega)]) ?_
    refine Ev.bind (f := fun _ t207 => (if ((t207.length : Nat) : Int) > 0 then (some ((sx != sy), t207)) else (some (false, t207)))) (cut_is _ all rfl (by omega) hall) ?_
    refine Ev.congr (f := fun _ => some _) (fun k => ?_) (Ev.now _)
    have hn := digs_nil (X * Y)
    by_cases h : 0 < X * Y
    · rw [if_pos h, if_pos (by omega)]
    · rw [if_neg h, if_neg (by omega)]
  | succ m ih =>
    intro i all hi hall hlen
    refine Ev.step (f := fun k => chordmailref03_Num_Mul.l1 k all (i : Int) (List.replicate 0 0) ((0 : Nat) : Int) sx (digs X) sy (digs Y)) (fun k => by simp only [chordmailref03_Num_Mul.l0]; rw [if_pos (by omega)]; rfl) ?_
    refine mul_l1 (by omega) LX LY all sx sy (fun row hrow hrl => ?_) i 0 (by omega)
    obtain ⟨r, h1, h2, h3⟩ := together_is hall hrow (M := (digs X).length + 2 + i) (by omega) (by omega) (by omega)
    refine Ev.bind (f := fun k t223 => chordmailref03_Num_Mul.l0 k t223 (wrap64 ((i : Int) + 1)) sx (digs X) sy (digs Y)) h3 ?_
    have e : X * (Y % 10 ^ i) + X * (Y / 10 ^ i % 10) * 10 ^ i = X * (Y % 10 ^ (i + 1)) := by
      rw [Nat.pow_succ, Nat.mod_mul, Nat.mul_add, Nat.mul_assoc, Nat.mul_comm (Y / 10 ^ i % 10)]
    rw [e] at h1
    refine Ev.congr (fun k => ?_) (ih (i + 1) r (by omega) h1 (by omega))
    rw [wrap_id (by omega) (by omega)]
    rfl
theorem num_mul_eq {x y : Int} (hx : x.natAbs < 10 ^ 60) (hy : y.natAbs < 10 ^ 60) :
    Ev (fun k => chordmailref03_Num_Mul.f k (decide (x < 0)) (digs x.natAbs) (decide (y < 0)) (digs y.natAbs)) (decide (x * y < 0), digs (x * y).natAbs) := by
  have := mul_l0 (digs_len hx) (digs_len hy) (decide (x < 0)) (decide (y < 0)) (digs y.natAbs).length 0 [] (by omega) (by rw [Nat.pow_zero, Nat.mod_one, Nat.mul_zero]; exact ⟨by simp, by simp⟩) (by simp)
  rw [Int.natAbs_mul]
  have e : decide (x * y < 0) = if 0 < x.natAbs * y.natAbs then (decide (x < 0) != decide (y < 0)) else false := by
    have h0 : x * y = 0 ↔ ¬ 0 < x.natAbs * y.natAbs := by rw [← Int.natAbs_mul]; omega
    by_cases h : 0 < x.natAbs * y.natAbs
    · rw [if_pos h]
      have hne : x * y ≠ 0 := fun h' => h0.1 h' h
      rcases Int.lt_or_le x 0 with ha | ha <;> rcases Int.lt_or_le y 0 with hb | hb
      · have := Int.mul_nonneg_of_nonpos_of_nonpos (Int.le_of_lt ha) (Int.le_of_lt hb)
        rw [decide_eq_true ha, decide_eq_true hb, decide_eq_false (by omega)]; rfl
      · have := Int.mul_nonpos_of_nonpos_of_nonneg (Int.le_of_lt ha) hb
        rw [decide_eq_true ha, decide_eq_false (show ¬ y < 0 by omega), decide_eq_true (by omega)]; rfl
      · have := Int.mul_nonpos_of_nonneg_of_nonpos ha (Int.le_of_lt hb)
        rw [decide_eq_false (show ¬ x < 0 by omega), decide_eq_true hb, decide_eq_true (by omega)]; rfl
      · have := Int.mul_nonneg ha hb
        rw [decide_eq_false (show ¬ x < 0 by omega), decide_eq_false (show ¬ y < 0 by omega), decide_eq_false (by omega)]; rfl
    · rw [if_neg h, decide_eq_false (by have := h0.2 h; omega)]
  rw [e]
  exact this

/-! ### Sums and products of lists -/
def prodL : List Int → Int
  | [] => 1
  | x :: t => x * prodL t
theorem perm_sum {a b : List Int} (h : a.Perm b) : a.sum = b.sum := by
  induction h with
  | nil => rfl
  | cons x _ ih => simp only [List.sum_cons, ih]
  | swap x y l => simp only [List.sum_cons]; omega
  | trans _ _ h1 h2 => exact h1.trans h2
theorem perm_prod {a b : List Int} (h : a.Perm b) : prodL a = prodL b := by
  induction h with
  | nil => rfl
  | cons x _ ih => simp only [prodL, ih]
  | swap x y l => simp only [prodL]; rw [Int.mul_left_comm]
  | trans _ _ h1 h2 => exact h1.trans h2
theorem prodL_one (a : List Int) : prodL (a ++ [1]) = prodL a := by
  induction a with
  | nil => rfl
  | cons x t ih => simp only [List.cons_append, prodL, ih]
theorem prodL_zero {a : List Int} (h : (0 : Int) ∈ a) : prodL a = 0 := by
  induction a with
  | nil => cases h
  | cons x t ih =>
    simp only [prodL]
    rcases List.mem_cons.1 h with h | h
    · rw [← h, Int.zero_mul]
    · rw [ih h, Int.mul_zero]
theorem prodL_pos {a : List Int} (h : ¬ (0 : Int) ∈ a) : 1 ≤ (prodL a).natAbs := by
  induction a with
  | nil => decide
  | cons x t ih =>
    simp only [prodL]
    have h1 : x ≠ 0 := fun e => h (by rw [e]; exact List.mem_cons_self ..)
    have h2 := ih fun e => h (List.mem_cons_of_mem _ e)
    rw [Int.natAbs_mul]
    exact Nat.mul_pos (by omega) h2
theorem index_l0 (l : List Int) (hl : l.length ≤ 17592186044416) (m : Nat) : ∀ (i k : Nat), i + m = l.length → m + 1 ≤ k → ∃ r : Int, slices_Index_int64_int64.l0 k l 0 (l.length : Int) (i : Int) = some r ∧ (0 ≤ r ↔ (0 : Int) ∈ l.drop i) := by
  induction m with
  | zero =>
    intro i k hi hk
    obtain ⟨k, rfl⟩ : ∃ k', k = k' + 1 := ⟨k - 1, by omega⟩
    refine ⟨-1, by simp only [slices_Index_int64_int64.l0]; rw [if_neg (by omega)], ?_⟩
    rw [List.drop_of_length_le (by omega)]
    simp
  | succ m ih =>
    intro i k hi hk
    obtain ⟨k, rfl⟩ : ∃ k', k = k' + 1 := ⟨k - 1, by omega⟩
    have hlt : i < l.length := by omega
    simp only [slices_Index_int64_int64.l0]
    rw [if_pos (by omega), if_pos (by omega), if_pos (by omega), List.drop_eq_getElem_cons hlt]
    have hr : rd l (i : Int) = l[i] := by simp [rd, hlt]
    rw [hr]
    by_cases h0 : (0 : Int) = l[i]
    · rw [if_pos h0]
      refine ⟨_, rfl, ?_⟩
      simp [← h0]
    · rw [if_neg h0, wrap_id (by omega) (by omega)]
      obtain ⟨r, h1, h2⟩ := ih (i + 1) k (by omega) (by omega)
      refine ⟨r, h1, ?_⟩
      rw [h2, List.mem_cons]
      exact ⟨.inr, fun h => h.resolve_left h0⟩
theorem product_l0 (l : List Int) (hl : l.length ≤ 17592186044416) (hw : ∀ x ∈ l, -9223372036854775808 ≤ x ∧ x ≤ 9223372036854775807) (h0 : ¬ (0 : Int) ∈ l) (m : Nat) : ∀ (i k n : Nat) (s : Bool), i + m = l.length → m + 2 ≤ k → 1 ≤ n → n < 18446744073709551616 →
    checked_Product.l0 k (n : Int) s l (l.length : Int) (i : Int) = some (fit ((if s then -(n : Int) else (n : Int)) * prodL (l.drop i))) := by
  induction m with
  | zero =>
    intro i k n s hi hk hn hn2
    obtain ⟨k, rfl⟩ : ∃ k', k = k' + 1 + 1 := ⟨k - 2, by omega⟩
    simp only [checked_Product.l0]
    rw [if_neg (by omega), signed_eq (by omega) (by omega) (fun _ => by omega), List.drop_of_length_le (by omega)]
    simp [prodL]
  | succ m ih =>
    intro i k n s hi hk hn hn2
    obtain ⟨k, rfl⟩ : ∃ k', k = k' + 1 := ⟨k - 1, by omega⟩
    have hlt : i < l.length := by omega
    have hr : rd l (i : Int) = l[i] := by simp [rd, hlt]
    have hx := hw l[i] (List.getElem_mem hlt)
    have hx0 : l[i] ≠ 0 := fun e => h0 (by rw [← e]; exact List.getElem_mem hlt)
    have hrest : 1 ≤ (prodL (l.drop (i + 1))).natAbs := prodL_pos fun e => h0 (List.mem_of_mem_drop e)
    simp only [checked_Product.l0]
    rw [if_pos (by omega), if_pos (by omega), if_pos (by omega), hr, size_eq hx.1 hx.2]
    simp only [Option.bind_some]
    rw [mul64_eq (by omega) (by omega) (by omega) (by omega)]
    simp only [Option.bind_some]
    rw [List.drop_eq_getElem_cons hlt]
    simp only [prodL]
    have next := fun (q : Nat) (s' : Bool) (h1 : 1 ≤ q) (h2 : q < 18446744073709551616) => ih (i + 1) k q s' (by omega) (by omega) h1 h2
    generalize l[i] = x at *
    generalize prodL (l.drop (i + 1)) = R at *
    have e1 : (n : Int) * (x.natAbs : Int) = ((n * x.natAbs : Nat) : Int) := by rw [Int.natCast_mul]
    have hp : 1 ≤ n * x.natAbs := Nat.mul_pos hn (by omega)
    have habs : (if s then -(n : Int) else (n : Int)) * (x * R) = (if (s != decide (x < 0)) then -((n * x.natAbs : Nat) : Int) else ((n * x.natAbs : Nat) : Int)) * R := by
      rw [← Int.mul_assoc, ← e1]
      rcases Int.lt_or_le x 0 with h | h
      · rw [decide_eq_true h, show (x.natAbs : Int) = -x by omega]
        cases s <;> simp [Int.mul_neg, Int.neg_mul]
      · rw [decide_eq_false (show ¬ x < 0 by omega), show (x.natAbs : Int) = x by omega]
        cases s <;> simp [Int.neg_mul]
    rw [habs, e1]
    generalize hq : n * x.natAbs = q at *
    by_cases hbig : ((q : Nat) : Int) / 18446744073709551616 > 0
    · rw [if_pos hbig, fit_out]
      have hge : 18446744073709551616 ≤ q := by omega
      have hab : 18446744073709551616 ≤ ((if (s != decide (x < 0)) then -(q : Int) else (q : Int)) * R).natAbs := by
        rw [Int.natAbs_mul]
        have : (if (s != decide (x < 0)) then -(q : Int) else (q : Int)).natAbs = q := by split <;> omega
        rw [this]
        exact Nat.le_trans hge (Nat.le_mul_of_pos_right _ hrest)
      omega
    · rw [if_neg hbig, show ((q : Nat) : Int) % 18446744073709551616 = (q : Int) by omega, wrap_id (by omega) (by omega)]
      exact next q _ hp (by omega)
theorem product_eq (l : List Int) (hl : l.length ≤ 17592186044416) (hw : ∀ x ∈ l, -9223372036854775808 ≤ x ∧ x ≤ 9223372036854775807) (k : Nat) (hk : l.length + 2 ≤ k) : checked_Product.f k l = some (fit (prodL l)) := by
  unfold checked_Product.f slices_Contains_int64_int64.f slices_Index_int64_int64.f
  obtain ⟨r, h1, h2⟩ := index_l0 l hl l.length 0 k (by omega) (by omega)
  rw [show ((0 : Nat) : Int) = 0 from rfl] at h1
  rw [h1]
  simp only [Option.bind_some]
  rw [List.drop_zero] at h2
  by_cases h0 : (0 : Int) ∈ l
  · rw [if_pos (decide_eq_true (h2.2 h0)), prodL_zero h0, fit_in (by omega) (by omega)]
  · rw [if_neg (by simp; have := mt h2.1 h0; omega)]
    have := product_l0 l hl hw h0 l.length 0 k 1 false (by omega) (by omega) (by omega) (by omega)
    simpa using this
theorem sum_eq (l : List Int) (hl : l.length ≤ 17592186044416) (hw : ∀ x ∈ l, -9223372036854775808 ≤ x ∧ x ≤ 9223372036854775807) : checked_Sum.f l = some (fit l.sum) := by
  unfold checked_Sum.f fit
  rw [if_pos]
  · split <;> rfl
  · refine ⟨?_, hl⟩
    rw [List.all_eq_true]
    intro x hx
    have := hw x hx
    simp [this.1, this.2]

theorem refsum_l0 (l : List Int) (hl : l.length ≤ 17592186044416) (hw : ∀ x ∈ l, -9223372036854775808 ≤ x ∧ x ≤ 9223372036854775807) (m : Nat) : ∀ i : Nat, i + m = l.length →
    Ev (fun k => chordmailref03_Sum.l0 k l (i : Int) (decide ((l.take i).sum < 0)) (digs (l.take i).sum.natAbs)) (fit l.sum) := by
  have hb : ∀ i, i ≤ l.length → (l.take i).sum.natAbs < 10 ^ 59 := fun i hi => by
    have h := checked_Sum.bd (l.take i) (fun x hx => hw x (List.mem_of_mem_take hx))
    have h2 : (l.take i).length ≤ 17592186044416 := by rw [List.length_take]; omega
    rw [pow59]
    omega
  induction m with
  | zero =>
    intro i hi
    refine Ev.step (f := fun k => (chordmailref03_Num_Int.f k (decide ((l.take i).sum < 0)) (digs (l.take i).sum.natAbs)).bind fun bt172 => (some (bt172.1, bt172.2))) (fun k => by simp only [chordmailref03_Sum.l0]; rw [if_neg (by omega)]) ?_
    have e : l.take i = l := List.take_of_length_le (by omega)
    have h1 := num_int_eq (hb i (by omega))
    rw [e] at h1 ⊢
    exact Ev.bind (f := fun k (bt174 : Int × Int) => some (bt174.1, bt174.2)) h1 (Ev.now _)
  | succ m ih =>
    intro i hi
    have hlt : i < l.length := by omega
    have hx := hw (rd l (i : Int)) (by simp [rd, hlt])
    have next := ih (i + 1) (by omega)
    have h1 := hb i (by omega)
    have ht := checked_Sum.take l i hlt
    rw [ht] at next
    have i1 : (i : Int) < (l.length : Int) := by omega
    have i2 : (0 : Int) ≤ (i : Int) := by omega
    have i3 : wrap64 ((i : Int) + 1) = ((i + 1 : Nat) : Int) := by rw [wrap_id (by omega) (by omega)]; omega
    have h2 : (rd l (i : Int)).natAbs < 10 ^ 59 := by rw [pow59]; omega
    clear hb ih ht
    generalize (l.take i).sum = S at *
    refine Ev.step (f := fun k => (chordmailref03_Of.f k (rd l (i : Int))).bind fun bt164 => ((chordmailref03_Num_Add.f k (decide (S < 0)) (digs S.natAbs) bt164.1 bt164.2).bind fun bt168 => (chordmailref03_Sum.l0 k l (wrap64 ((i : Int) + 1)) bt168.1 bt168.2))) (fun k => by simp only [chordmailref03_Sum.l0]; rw [if_pos i1, if_pos i2]) ?_
    refine Ev.bind (f := fun k (bt164 : Bool × List Int) => ((chordmailref03_Num_Add.f k (decide (S < 0)) (digs S.natAbs) bt164.1 bt164.2).bind fun bt168 => (chordmailref03_Sum.l0 k l (wrap64 ((i : Int) + 1)) bt168.1 bt168.2))) (of_eq hx.1 hx.2) ?_
    refine Ev.bind (f := fun k (bt168 : Bool × List Int) => (chordmailref03_Sum.l0 k l (wrap64 ((i : Int) + 1)) bt168.1 bt168.2)) (num_add_eq h1 h2) ?_
    exact Ev.congr (fun k => by rw [i3]) next
theorem refsum_eq (l : List Int) (hl : l.length ≤ 17592186044416) (hw : ∀ x ∈ l, -9223372036854775808 ≤ x ∧ x ≤ 9223372036854775807) : Ev (fun k => chordmailref03_Sum.f k l) (fit l.sum) := by
  have h := refsum_l0 l hl hw l.length 0 (by omega)
  rw [List.take_zero] at h
  refine Ev.congr (fun k => ?_) h
  have e : digs ([] : List Int).sum.natAbs = [] := digs_zero
  rw [e]
  rfl
theorem refprod_l1 (l : List Int) (hl : l.length ≤ 17592186044416) (hw : ∀ x ∈ l, -9223372036854775808 ≤ x ∧ x ≤ 9223372036854775807) (h0 : ¬ (0 : Int) ∈ l) (m : Nat) : ∀ (i : Nat) (P : Int), i + m = l.length → 1 ≤ P.natAbs → P.natAbs < 10 ^ 40 →
    Ev (fun k => chordmailref03_Product.l1 k l (i : Int) (decide (P < 0)) (digs P.natAbs)) (fit (P * prodL (l.drop i))) := by
  have p40 : (10 : Nat) ^ 40 = 10000000000000000000000000000000000000000 := by decide +kernel
  induction m with
  | zero =>
    intro i P hi hP1 hP
    refine Ev.step (f := fun k => (chordmailref03_Num_Int.f k (decide (P < 0)) (digs P.natAbs)).bind fun bt172 => (some (bt172.1, bt172.2))) (fun k => by simp only [chordmailref03_Product.l1]; rw [if_neg (by omega)]) ?_
    rw [List.drop_of_length_le (by omega), prodL, Int.mul_one]
    exact Ev.bind (f := fun k (bt174 : Int × Int) => some (bt174.1, bt174.2)) (num_int_eq (by rw [pow59]; rw [p40] at hP; omega)) (Ev.now _)
  | succ m ih =>
    intro i P hi hP1 hP
    have hlt : i < l.length := by omega
    have hr : rd l (i : Int) = l[i] := by simp [rd, hlt]
    have hx := hw l[i] (List.getElem_mem hlt)
    have hx0 : l[i] ≠ 0 := fun e => h0 (by rw [← e]; exact List.getElem_mem hlt)
    have hrest : 1 ≤ (prodL (l.drop (i + 1))).natAbs := prodL_pos fun e => h0 (List.mem_of_mem_drop e)
    have next := fun Q h1 h2 => ih (i + 1) Q (by omega) h1 h2
    have i1 : (i : Int) < (l.length : Int) := by omega
    have i2 : (0 : Int) ≤ (i : Int) := by omega
    have i3 : wrap64 ((i : Int) + 1) = ((i + 1 : Nat) : Int) := by rw [wrap_id (by omega) (by omega)]; omega
    rw [List.drop_eq_getElem_cons hlt]
    simp only [prodL]
    rw [← Int.mul_assoc]
    have p60 : (10 : Nat) ^ 60 = 1000000000000000000000000000000000000000000000000000000000000 := by decide +kernel
    have hm1 : P.natAbs < 10 ^ 60 := by rw [p60]; rw [p40] at hP; omega
    have hm2 : l[i].natAbs < 10 ^ 60 := by rw [p60]; omega
    have hQ1 : 1 ≤ (P * l[i]).natAbs := by rw [Int.natAbs_mul]; exact Nat.mul_pos hP1 (by omega)
    clear ih
    rw [← hr] at hx hx0 hm2 hQ1 ⊢
    refine Ev.step (f := fun k => (chordmailref03_Of.f k (rd l (i : Int))).bind fun bt214 => ((chordmailref03_Num_Mul.f k (decide (P < 0)) (digs P.natAbs) bt214.1 bt214.2).bind fun bt218 => (if (bt218.2.length : Int) > 40 then (some (0, 30)) else (chordmailref03_Product.l1 k l (wrap64 ((i : Int) + 1)) bt218.1 bt218.2)))) (fun k => by simp only [chordmailref03_Product.l1]; rw [if_pos i1, if_pos i2]) ?_
    refine Ev.bind (f := fun k (bt214 : Bool × List Int) => ((chordmailref03_Num_Mul.f k (decide (P < 0)) (digs P.natAbs) bt214.1 bt214.2).bind fun bt218 => (if (bt218.2.length : Int) > 40 then (some (0, 30)) else (chordmailref03_Product.l1 k l (wrap64 ((i : Int) + 1)) bt218.1 bt218.2)))) (of_eq hx.1 hx.2) ?_
    refine Ev.bind (f := fun k (bt218 : Bool × List Int) => (if (bt218.2.length : Int) > 40 then (some (0, 30)) else (chordmailref03_Product.l1 k l (wrap64 ((i : Int) + 1)) bt218.1 bt218.2))) (num_mul_eq hm1 hm2) ?_
    generalize P * rd l (i : Int) = Q at *
    by_cases hbig : (digs Q.natAbs).length > 40
    · have hq : 10 ^ 40 ≤ Q.natAbs := by
        rcases Nat.lt_or_ge Q.natAbs (10 ^ 40) with h | h
        · have := digs_len h; omega
        · exact h
      rw [p40] at hq
      have hab : 10000000000000000000000000000000000000000 ≤ (Q * prodL (l.drop (i + 1))).natAbs := by
        rw [Int.natAbs_mul]
        exact Nat.le_trans hq (Nat.le_mul_of_pos_right _ hrest)
      rw [fit_out (by omega)]
      exact Ev.congr (f := fun _ => some (0, 30)) (fun k => by rw [if_pos (show ((digs Q.natAbs).length : Int) > 40 by omega)]) (Ev.now _)
    · have hq : Q.natAbs < 10 ^ 40 := Nat.lt_of_lt_of_le (digs_top _) (Nat.pow_le_pow_right (by decide) (Nat.le_of_not_lt hbig))
      exact Ev.congr (fun k => by rw [if_neg (show ¬ ((digs Q.natAbs).length : Int) > 40 by omega), i3]) (next Q hQ1 hq)
theorem refprod_l0 (l : List Int) (hl : l.length ≤ 17592186044416) (hw : ∀ x ∈ l, -9223372036854775808 ≤ x ∧ x ≤ 9223372036854775807) (m : Nat) : ∀ i : Nat, i + m = l.length → ((0 : Int) ∈ l ↔ (0 : Int) ∈ l.drop i) →
    Ev (fun k => chordmailref03_Product.l0 k l (i : Int)) (fit (prodL l)) := by
  induction m with
  | zero =>
    intro i hi hz
    rw [List.drop_of_length_le (by omega)] at hz
    have h0 : ¬ (0 : Int) ∈ l := fun h => by cases hz.1 h
    refine Ev.step (f := fun k => (chordmailref03_Of.f k 1).bind fun bt206 => (chordmailref03_Product.l1 k l 0 bt206.1 bt206.2)) (fun k => by simp only [chordmailref03_Product.l0]; rw [if_neg (by omega)]) ?_
    refine Ev.bind (f := fun k (bt206 : Bool × List Int) => (chordmailref03_Product.l1 k l 0 bt206.1 bt206.2)) (of_eq (x := 1) (by omega) (by omega)) ?_
    have h := refprod_l1 l hl hw h0 l.length 0 1 (by omega) (by decide) (by decide)
    rw [List.drop_zero, Int.one_mul] at h
    exact h
  | succ m ih =>
    intro i hi hz
    have hlt : i < l.length := by omega
    have hr : rd l (i : Int) = l[i] := by simp [rd, hlt]
    have i1 : (i : Int) < (l.length : Int) := by omega
    have i2 : (0 : Int) ≤ (i : Int) := by omega
    have i3 : wrap64 ((i : Int) + 1) = ((i + 1 : Nat) : Int) := by rw [wrap_id (by omega) (by omega)]; omega
    by_cases h0 : l[i] = 0
    · have hm : (0 : Int) ∈ l := by rw [← h0]; exact List.getElem_mem hlt
      rw [prodL_zero hm, fit_in (by omega) (by omega)]
      exact Ev.step (f := fun _ => some (0, 0)) (fun k => by simp only [chordmailref03_Product.l0]; rw [if_pos i1, if_pos i2, hr, if_pos h0]) (Ev.now _)
    · have next := ih (i + 1) (by omega) (by
        rw [hz, List.drop_eq_getElem_cons hlt, List.mem_cons]
        exact ⟨fun h => h.resolve_left (fun e => h0 e.symm), .inr⟩)
      exact Ev.step (fun k => by simp only [chordmailref03_Product.l0]; rw [if_pos i1, if_pos i2, hr, if_neg h0, i3]) next
theorem refprod_eq (l : List Int) (hl : l.length ≤ 17592186044416) (hw : ∀ x ∈ l, -9223372036854775808 ≤ x ∧ x ≤ 9223372036854775807) : Ev (fun k => chordmailref03_Product.f k l) (fit (prodL l)) :=
  refprod_l0 l hl hw l.length 0 (by omega) (by simp)
theorem lists_walk_all (A : Option Addr) (c : Nat) (l : List Int) (w : World) (hr : Kd.C (Kd.int .i64) w A l.length l) (hc : l.length ≤ c) (hll : l.length * 8 ≤ 140737488351232) (hwf : ∀ x ∈ l, (Lit.int .i64 x).wf = true) :
    Calls Try.prog 6 #[.slice A l.length c] w fun e w' => e = .returned (.bool true) ∧ Below w.heap.size w w' := by
  have hb : ∀ x ∈ l, -9223372036854775808 ≤ x ∧ x ≤ 9223372036854775807 := fun x hx => wf_bounds (hwf x hx)
  have hb2 : ∀ x ∈ l.map half, -9223372036854775808 ≤ x ∧ x ≤ 9223372036854775807 := fun x hx => by
    obtain ⟨y, hy, rfl⟩ := List.mem_map.1 hx
    exact ⟨(half_in (hb y hy)).2.2.1, (half_in (hb y hy)).2.2.2⟩
  have hl1 : l.length ≤ 17592186044416 := by omega
  have hl2 : (l.map half).length ≤ 17592186044416 := by rw [List.length_map]; omega
  obtain ⟨k1, e1⟩ := refsum_eq l hl1 hb
  obtain ⟨k2, e2⟩ := refsum_eq (l.map half) hl2 hb2
  obtain ⟨k3, e3⟩ := refprod_eq l hl1 hb
  obtain ⟨k4, e4⟩ := refprod_eq (l.map half) hl2 hb2
  obtain ⟨k, hk⟩ : ∃ k, k1 ≤ k ∧ k2 ≤ k ∧ k3 ≤ k ∧ k4 ≤ k ∧ l.length + 2 ≤ k := ⟨k1 + k2 + k3 + k4 + l.length + 2, by omega⟩
  refine lists_walk k A c l w hr hc hll hb fun gs hgs => ?_
  rcases hgs with rfl | rfl
  · exact ⟨_, _, _, _, sum_eq gs hl1 hb, e1 k hk.1, product_eq gs hl1 hb k hk.2.2.2.2, e3 k hk.2.2.1⟩
  · exact ⟨_, _, _, _, sum_eq _ hl2 hb2, e2 k hk.2.1, product_eq _ hl2 hb2 k (by rw [List.length_map]; exact hk.2.2.2.2), e4 k hk.2.2.2.1⟩
end Go.Proofs.Ytacmheeodhjlbaa.Pure
