/- The reference's rows of digits: together. -/
import Derived.Test.YtacmheeodhjlbaaTog
namespace Go.Proofs.Ytacmheeodhjlbaa
open Go.RowKit Go.WideShapes

def Can (l : List Int) (n : Nat) : Prop := ∀ i, i < l.length → 0 < n / 10 ^ i
theorem can_digs (n : Nat) : Can (digs n) n := fun i hi => (digs_lt n i).1 hi
theorem Is.canon {l : List Int} {n : Nat} (h : Is l n) (hc : Can l n) : l = digs n := by
  apply h.eq_digs
  have h1 := digs_len h.1
  rcases Nat.eq_zero_or_pos l.length with h0 | h0
  · omega
  · have := (digs_lt n (l.length - 1)).2 (hc _ (by omega))
    omega
theorem add_digit {A B S c : Nat} (hc : c ≤ 1) (h : A + B + c = S) : A / 10 + B / 10 + (A % 10 + B % 10 + c) / 10 = S / 10 ∧ (A % 10 + B % 10 + c) % 10 = S % 10 ∧ (A % 10 + B % 10 + c) / 10 ≤ 1 := by omega
/-- One digit of a sum more. -/
theorem tog_step {a b c n M na nb x y : Nat} {out : List Int} {CA CB : Prop} (hl : out.length = n) (hc : c ≤ 1) (hn : n ≤ M + (1 - c)) (hx : a / 10 ^ n % 10 = x) (hy : b / 10 ^ n % 10 = y)
    (hI : a / 10 ^ n + b / 10 ^ n + c = (a + b) / 10 ^ n ∧ (∀ i, i < n → out.getD i 0 = (((a + b) / 10 ^ i % 10 : Nat) : Int)) ∧ (CA → CB → ∀ i, i < n → 0 < (a + b) / 10 ^ i))
    (hor : n < na ∨ n < nb ∨ 0 < c) (L1 : na ≤ M) (L2 : nb ≤ M) (hOA : ∀ i, na ≤ i → a / 10 ^ i = 0) (hOB : ∀ i, nb ≤ i → b / 10 ^ i = 0)
    (hcan : ∀ i, CA → i < na → 0 < a / 10 ^ i) (hcbn : ∀ i, CB → i < nb → 0 < b / 10 ^ i) :
    (x + y + c) / 10 ≤ 1 ∧ n + 1 ≤ M + (1 - (x + y + c) / 10) ∧ (out ++ [(((x + y + c) % 10 : Nat) : Int)]).length = n + 1 ∧
    a / 10 ^ (n + 1) + b / 10 ^ (n + 1) + (x + y + c) / 10 = (a + b) / 10 ^ (n + 1) ∧ (∀ i, i < n + 1 → (out ++ [(((x + y + c) % 10 : Nat) : Int)]).getD i 0 = (((a + b) / 10 ^ i % 10 : Nat) : Int)) ∧ (CA → CB → ∀ i, i < n + 1 → 0 < (a + b) / 10 ^ i) := by
  obtain ⟨h1, h2, h3⟩ := hI
  rw [div_pow_succ', div_pow_succ', div_pow_succ']
  have oa := hOA n
  have ob := hOB n
  have ca := hcan n
  have cb := hcbn n
  have hll : (out ++ [(((x + y + c) % 10 : Nat) : Int)]).length = n + 1 := by rw [List.length_append, hl, List.length_singleton]
  have hdig := add_digit hc h1
  rw [hx, hy] at hdig
  refine ⟨hdig.2.2, ?_, hll, hdig.1, fun i hi => snoc_get (fun i => (((a + b) / 10 ^ i % 10 : Nat) : Int)) (by rw [hl]; exact h2) ?_ (by rw [hll]; exact hi), fun p q i hi => ?_⟩
  · generalize a / 10 ^ n = A at *
    generalize b / 10 ^ n = B at *
    clear h2 h3 hOA hOB hcan hcbn hll hdig
    omega
  · rw [hl, hdig.2.1]
  · rcases Nat.lt_or_ge i n with h | h
    · exact h3 p q i h
    · obtain rfl : i = n := by omega
      have ca := ca p
      have cb := cb q
      generalize a / 10 ^ i = A at *
      generalize b / 10 ^ i = B at *
      clear h2 h3 hOA hOB hcan hcbn hll hdig
      omega
set_option maxRecDepth 100000 in
set_option maxHeartbeats 4000000 in
theorem together_any (la lb : List Int) (a b M : Nat) (ha : Is la a) (hb : Is lb b) (L1 : la.length ≤ M) (L2 : lb.length ≤ M) (hM : M ≤ 100000) (va vb : Value) (w : World) (hva : IntsAt w va la) (hvb : IntsAt w vb lb) :
    Calls Try.prog 41 #[va, vb] w fun e w' => ∃ u r, e = .returned u ∧ (IntsAt w' u r ∧ Fresh w.heap.size u) ∧ Is r (a + b) ∧ r.length ≤ M + 1 ∧ (Can la a → Can lb b → r = digs (a + b)) ∧ Below w.heap.size w w' := by
  obtain ⟨i0, hi, hz0, hz1, hz2⟩ := info_parts info_int
  have hDA := fun (i : Nat) (hi : i ≤ 17592186044416) (wr : World) (hB : Below w.heap.size w wr) => digit_any la i va wr (hva.below hB) (by omega) hi
  have hDB := fun (i : Nat) (hi : i ≤ 17592186044416) (wr : World) (hB : Below w.heap.size w wr) => digit_any lb i vb wr (hvb.below hB) (by omega) hi
  obtain ⟨aa, ac, rfl⟩ := hva.len
  obtain ⟨ba, bc, rfl⟩ := hvb.len
  have hGA := Lib.hid ha.get
  have hGB := Lib.hid hb.get
  have hOA := Lib.hid (fun i h => ha.over (i := i) h)
  have hOB := Lib.hid (fun i h => hb.over (i := i) h)
  replace hDA := Lib.hid hDA
  replace hDB := Lib.hid hDB
  clear ha hb hva hvb
  have hcan : Hid (∀ i, Can la a → i < la.length → 0 < a / 10 ^ i) := Lib.hid fun i h => h i
  have hcbn : Hid (∀ i, Can lb b → i < lb.length → 0 < b / 10 ^ i) := Lib.hid fun i h => h i
  generalize Can la a = CA at *
  generalize Can lb b = CB at *
  generalize hla : la.length = na at *
  generalize hlb : lb.length = nb at *
  replace hla := Lib.hid hla
  replace hlb := Lib.hid hlb
  go_enter Try.func41, Try.ntmps41
  go_wp2_with fail
  go_loopw [5, 6, 7, 8] (fun v5 v6 v7 _ wr => ∃ (c n : Nat) (out : List Int), v6 = .int .i64 c ∧ v7 = .int .i64 n ∧ c ≤ 1 ∧ n ≤ M + (1 - c) ∧ Hid (out.length = n) ∧ Hid (a / 10 ^ n + b / 10 ^ n + c = (a + b) / 10 ^ n ∧ (∀ i, i < n → out.getD i 0 = (((a + b) / 10 ^ i % 10 : Nat) : Int)) ∧ (CA → CB → ∀ i, i < n → 0 < (a + b) / 10 ^ i)) ∧ Hid (wr.ownsRow w.heap.size 3 1 v5 n (intV out)) ∧ Hid (Below w.heap.size w wr)) (fun _ _ v7 _ _ => M + 2 - (intOf v7).toNat)
  case atStart =>
    exact ⟨0, 0, [], rfl, rfl, by omega, by omega, Lib.hid rfl, Lib.hid ⟨by simp, fun i hi => by omega, fun _ _ i hi => by omega⟩, Lib.hid (World.ownsRow_nil _ _ _ _), Lib.hid (Below.refl _ _)⟩
  case round =>
    obtain ⟨c, n, out, rfl, rfl, hc, hn, hl, hI, hown, hB⟩ := hrel
    have hcase : (n < na) ∨ (¬ n < na ∧ n < nb) ∨ (¬ n < na ∧ ¬ n < nb ∧ 0 < c) ∨ (¬ n < na ∧ ¬ n < nb ∧ c = 0) := by omega
    have hA := Lib.hid (hGA.out n)
    have hB' := Lib.hid (hGB.out n)
    have hD1 := Lib.hid (hDA.out n (by omega) wr hB.out)
    have hD2 := Lib.hid (hDB.out n (by omega) wr hB.out)
    rw [hGA.out] at hD1
    rw [hGB.out] at hD2
    have hx9 : a / 10 ^ n % 10 < 10 := by omega
    have hy9 : b / 10 ^ n % 10 < 10 := by omega
    generalize hx : a / 10 ^ n % 10 = x at *
    generalize hy : b / 10 ^ n % 10 = y at *
    replace hx := Lib.hid hx
    replace hy := Lib.hid hy
    have hn0 : (0 : Int) ≤ (n : Int) := by omega
    have hst : n < na ∨ n < nb ∨ 0 < c → Hid _ := fun hor => Lib.hid (tog_step (out := out) hl.out hc hn hx.out hy.out hI.out hor L1 L2 hOA.out hOB.out hcan.out hcbn.out)
    rcases hcase with h1 | ⟨h1, h2⟩ | ⟨h1, h2, h3⟩ | ⟨h1, h2, rfl⟩
    · replace hst := hst (by omega)
      go_wp2_with fail
      refine hD1.out.mono ?_
      rintro e w1 ⟨rfl, rfl⟩
      go_wp2_with fail
      refine hD2.out.mono ?_
      rintro e w2 ⟨rfl, rfl⟩
      go_wp2_with (at_builtin; refine wpList_append_own _ rfl _ _ 35 rfl w.heap.size 3 i0 (.int .i64 0) 1 8 Try.underlying35 hi hz0 hz1 hz2 rfl (by decide) _ _ _ rfl (hown.out.alloc _) ⟨w2.heap.size, 0, none⟩ 1 1 [.int .i64 _] rfl rfl (cell_one_new _ _ _) (by simp [Value.oneCell']) (by unfold maxLen; omega) (by omega) (by have := hB.out.size; simp; omega) ?_; intro v' w3 hown' hgrow _)
      obtain ⟨p1, p2, p3, p4⟩ := hst.out
      have hB3 := (hB.out.alloc hB.out.size (.cells #[.int .i64 (((x : Int) + y + c) % 10)] 3)).grown hgrow (by have := hB.out.size; simp; omega) (fun k e => ((hown.out.alloc (.cells #[.int .i64 (((x : Int) + y + c) % 10)] 3)).lt k e).1)
      refine ⟨⟨(x + y + c) / 10, n + 1, out ++ [(((x + y + c) % 10 : Nat) : Int)], congrArg (Value.int .i64) (by omega), rfl, p1, p2, Lib.hid p3, Lib.hid p4, Lib.hid ?_, Lib.hid hB3⟩, ?_⟩
      · simpa [intV] using hown'
      · simp only [intOf]; omega
    · replace hst := hst (by omega)
      go_wp2_with fail
      refine hD1.out.mono ?_
      rintro e w1 ⟨rfl, rfl⟩
      go_wp2_with fail
      refine hD2.out.mono ?_
      rintro e w2 ⟨rfl, rfl⟩
      go_wp2_with (at_builtin; refine wpList_append_own _ rfl _ _ 35 rfl w.heap.size 3 i0 (.int .i64 0) 1 8 Try.underlying35 hi hz0 hz1 hz2 rfl (by decide) _ _ _ rfl (hown.out.alloc _) ⟨w2.heap.size, 0, none⟩ 1 1 [.int .i64 _] rfl rfl (cell_one_new _ _ _) (by simp [Value.oneCell']) (by unfold maxLen; omega) (by omega) (by have := hB.out.size; simp; omega) ?_; intro v' w3 hown' hgrow _)
      obtain ⟨p1, p2, p3, p4⟩ := hst.out
      have hB3 := (hB.out.alloc hB.out.size (.cells #[.int .i64 (((x : Int) + y + c) % 10)] 3)).grown hgrow (by have := hB.out.size; simp; omega) (fun k e => ((hown.out.alloc (.cells #[.int .i64 (((x : Int) + y + c) % 10)] 3)).lt k e).1)
      refine ⟨⟨(x + y + c) / 10, n + 1, out ++ [(((x + y + c) % 10 : Nat) : Int)], congrArg (Value.int .i64) (by omega), rfl, p1, p2, Lib.hid p3, Lib.hid p4, Lib.hid ?_, Lib.hid hB3⟩, ?_⟩
      · simpa [intV] using hown'
      · simp only [intOf]; omega
    · replace hst := hst (by omega)
      go_wp2_with fail
      refine hD1.out.mono ?_
      rintro e w1 ⟨rfl, rfl⟩
      go_wp2_with fail
      refine hD2.out.mono ?_
      rintro e w2 ⟨rfl, rfl⟩
      go_wp2_with (at_builtin; refine wpList_append_own _ rfl _ _ 35 rfl w.heap.size 3 i0 (.int .i64 0) 1 8 Try.underlying35 hi hz0 hz1 hz2 rfl (by decide) _ _ _ rfl (hown.out.alloc _) ⟨w2.heap.size, 0, none⟩ 1 1 [.int .i64 _] rfl rfl (cell_one_new _ _ _) (by simp [Value.oneCell']) (by unfold maxLen; omega) (by omega) (by have := hB.out.size; simp; omega) ?_; intro v' w3 hown' hgrow _)
      obtain ⟨p1, p2, p3, p4⟩ := hst.out
      have hB3 := (hB.out.alloc hB.out.size (.cells #[.int .i64 (((x : Int) + y + c) % 10)] 3)).grown hgrow (by have := hB.out.size; simp; omega) (fun k e => ((hown.out.alloc (.cells #[.int .i64 (((x : Int) + y + c) % 10)] 3)).lt k e).1)
      refine ⟨⟨(x + y + c) / 10, n + 1, out ++ [(((x + y + c) % 10 : Nat) : Int)], congrArg (Value.int .i64) (by omega), rfl, p1, p2, Lib.hid p3, Lib.hid p4, Lib.hid ?_, Lib.hid hB3⟩, ?_⟩
      · simpa [intV] using hown'
      · simp only [intOf]; omega
    · have hIs : Is out (a + b) ∧ out.length ≤ M + 1 ∧ (CA → CB → out = digs (a + b)) := by
        obtain ⟨i1, i2, i3⟩ := hI.out
        rw [hOA.out n (by omega), hOB.out n (by omega)] at i1
        have h := hl.out
        have hs : Is out (a + b) := ⟨by rw [h]; exact lt_pow_of_div (by omega), by rw [h]; exact i2⟩
        exact ⟨hs, by omega, fun p q => hs.canon (by unfold Can; rw [h]; exact i3 p q)⟩
      replace hIs := Lib.hid hIs
      have hres : Hid (∀ v, wr.ownsRow w.heap.size 3 1 v n (intV out) → IntsAt wr v out ∧ Fresh w.heap.size v) := Lib.hid fun v h => ⟨IntsAt.own (e := 3) (base := w.heap.size) (by rw [hl.out]; exact h), Fresh.own h⟩
      replace hown := Lib.hid (hres.out _ hown.out)
      clear hst hres
      go_wp2_with fail
      go_ret
      exact ⟨_, out, rfl, hown.out, hIs.out.1, hIs.out.2.1, hIs.out.2.2, hB.out⟩
end Go.Proofs.Ytacmheeodhjlbaa
