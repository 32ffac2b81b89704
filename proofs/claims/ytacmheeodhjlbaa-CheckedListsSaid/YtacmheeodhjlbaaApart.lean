/- The reference's rows of digits: apart. -/
import Derived.Test.YtacmheeodhjlbaaPlus
namespace Go.Proofs.Ytacmheeodhjlbaa
open Go.RowKit Go.WideShapes

/-- One digit of a difference more. -/
theorem apart_step {a b c n x y : Nat} {out : List Int} (hl : out.length = n) (hx : a / 10 ^ n % 10 = x) (hy : b / 10 ^ n % 10 = y)
    (hI : a / 10 ^ n = b / 10 ^ n + (a - b) / 10 ^ n + c ∧ ∀ i, i < n → out.getD i 0 = (((a - b) / 10 ^ i % 10 : Nat) : Int)) (d : Nat) (c' : Nat) (hd : x + 10 * c' = y + c + d) (hd9 : d < 10) :
    (out ++ [(d : Int)]).length = n + 1 ∧ a / 10 ^ (n + 1) = b / 10 ^ (n + 1) + (a - b) / 10 ^ (n + 1) + c' ∧ ∀ i, i < n + 1 → (out ++ [(d : Int)]).getD i 0 = (((a - b) / 10 ^ i % 10 : Nat) : Int) := by
  obtain ⟨h1, h2⟩ := hI
  rw [div_pow_succ', div_pow_succ', div_pow_succ']
  have hll : (out ++ [(d : Int)]).length = n + 1 := by rw [List.length_append, hl, List.length_singleton]
  refine ⟨hll, ?_, fun i hi => snoc_get (fun i => (((a - b) / 10 ^ i % 10 : Nat) : Int)) (by rw [hl]; exact h2) ?_ (by rw [hll]; exact hi)⟩
  · generalize a / 10 ^ n = A at *
    generalize b / 10 ^ n = B at *
    generalize (a - b) / 10 ^ n = S at *
    clear h2 hll
    omega
  · rw [hl]
    generalize a / 10 ^ n = A at *
    generalize b / 10 ^ n = B at *
    generalize (a - b) / 10 ^ n = S at *
    clear h2 hll
    omega
set_option maxRecDepth 100000 in
set_option maxHeartbeats 4000000 in
theorem apart_any (a b : Nat) (hab : b ≤ a) (hna : (digs a).length ≤ 100000) (hnb : (digs b).length ≤ 100000) (va vb : Value) (w : World) (hva : IntsAt w va (digs a)) (hvb : IntsAt w vb (digs b)) :
    Calls Try.prog 43 #[va, vb] w fun e w' => ∃ u, e = .returned u ∧ (IntsAt w' u (digs (a - b)) ∧ Fresh w.heap.size u) ∧ Below w.heap.size w w' := by
  obtain ⟨i0, hi, hz0, hz1, hz2⟩ := info_parts info_int
  have hDB := fun (i : Nat) (hi : i ≤ 17592186044416) (wr : World) (hB : Below w.heap.size w wr) => digit_any (digs b) i vb wr (hvb.below hB) (by omega) hi
  have hCell : ∀ i, i < (digs a).length → ∀ wr, Below w.heap.size w wr → ∃ g off c, va = .slice (some ⟨g, off, none⟩) (digs a).length c ∧ wr.cell? ⟨g, off + i, none⟩ = some (.int .i64 ((a / 10 ^ i % 10 : Nat) : Int)) := fun i hi wr hB => by
    obtain ⟨aa, ac, rfl⟩ := hva.len
    obtain ⟨g, off, rfl, hc⟩ := (hva.below hB).at (by omega)
    exact ⟨g, off, ac, rfl, by rw [hc i hi, digs_get]⟩
  have hCut := fun (out : List Int) (wr : World) (h1 : Is out (a - b)) (h2 : out.length ≤ 17592186044416) (v : Value) (h3 : IntsAt wr v out) => cut_any out (a - b) h1 h2 v wr h3
  have hdl := digs_get b
  have htop := digs_top a
  obtain ⟨aa, ac, rfl⟩ := hva.len
  obtain ⟨ba, bc, rfl⟩ := hvb.len
  replace hDB := Lib.hid hDB
  replace hCell := Lib.hid hCell
  replace hCut := Lib.hid hCut
  replace hdl := Lib.hid hdl
  replace htop := Lib.hid htop
  clear hva hvb
  have hstart : Hid (a = b + (a - b)) := Lib.hid (by omega)
  clear hab
  generalize digs b = lb at *
  generalize digs (a - b) = rr at *
  generalize (digs a).length = na at *
  generalize lb.length = nb at *
  go_enter Try.func43, Try.ntmps43
  go_wp2_with fail
  go_loopw [5, 6, 7, 8] (fun v5 v6 v7 _ wr => ∃ (c n : Nat) (out : List Int), v6 = .int .i64 c ∧ v7 = .int .i64 n ∧ c ≤ 1 ∧ n ≤ na ∧ Hid (out.length = n) ∧ Hid (a / 10 ^ n = b / 10 ^ n + (a - b) / 10 ^ n + c ∧ ∀ i, i < n → out.getD i 0 = (((a - b) / 10 ^ i % 10 : Nat) : Int)) ∧ Hid (wr.ownsRow w.heap.size 3 1 v5 n (intV out)) ∧ Hid (Below w.heap.size w wr)) (fun _ _ v7 _ _ => na - (intOf v7).toNat)
  case atStart =>
    exact ⟨0, 0, [], rfl, rfl, by omega, by omega, Lib.hid rfl, Lib.hid ⟨by simpa using hstart.out, fun i hi => by omega⟩, Lib.hid (World.ownsRow_nil _ _ _ _), Lib.hid (Below.refl _ _)⟩
  case round =>
    obtain ⟨c, n, out, rfl, rfl, hc, hn, hl, hI, hown, hB⟩ := hrel
    by_cases hlt : n < na
    · have hD2 := Lib.hid (fun k => hDB.out n (by omega) (wr.drewN k) (below_drawn hB.out k))
      rw [hdl.out] at hD2
      obtain ⟨g, off, ac', e, hx⟩ := hCell.out n hlt wr hB.out
      cases e
      have hst := fun d c' => apart_step (out := out) hl.out rfl rfl hI.out d c'
      have hx9 : a / 10 ^ n % 10 < 10 := by omega
      have hy9 : b / 10 ^ n % 10 < 10 := by omega
      generalize a / 10 ^ n % 10 = x at *
      generalize b / 10 ^ n % 10 = y at *
      replace hst := Lib.hid hst
      have hw1 : IntKind.i64.wrap ((x : Int) - (y : Int)) = (x : Int) - (y : Int) := IntWalk.i64_in _ (by omega)
      have hw2 : IntKind.i64.wrap ((x : Int) - (y : Int) - (c : Int)) = (x : Int) - (y : Int) - (c : Int) := IntWalk.i64_in _ (by omega)
      have hn0 : (0 : Int) ≤ (n : Int) := by omega
      have hn1 : (n : Int) < (na : Int) := by omega
      by_cases hneg : x < y + c
      · have tn : decide ((x : Int) - (y : Int) - (c : Int) < 0) = true := decide_eq_true (by omega)
        obtain ⟨d, hd⟩ : ∃ d : Nat, d = x + 10 - (y + c) := ⟨_, rfl⟩
        have hdv : (d : Int) = ((x : Int) - (y : Int) - (c : Int) + 10) := by omega
        have hstep := Lib.hid (hst.out d 1 (by omega) (by omega))
        replace hdv := Lib.hid hdv
        clear hd
        go_wp2_with fail
        go_quiet (first | (go_at_call 44; exact Calls.quiet_of_same (hD2.out _)))
        go_wp2_with (at_builtin; refine wpList_append_own _ rfl _ _ 35 rfl w.heap.size 3 i0 (.int .i64 0) 1 8 Try.underlying35 hi hz0 hz1 hz2 rfl (by decide) _ _ _ rfl ((show (wr.drewN nq).ownsRow w.heap.size 3 1 _ n (intV out) from hown.out).alloc _) ⟨wr.heap.size, 0, none⟩ 1 1 [.int .i64 _] rfl rfl (cell_one_new _ _ _) (by simp [Value.oneCell']) (by unfold maxLen; omega) (by omega) (by have := hB.out.size; simp; omega) ?_; intro v' w3 hown' hgrow _)
        obtain ⟨p3, p4⟩ := hstep.out
        have hB3 := ((below_drawn hB.out nq).alloc (by have := hB.out.size; simp; omega) (.cells #[.int .i64 ((x : Int) - (y : Int) - (c : Int) + 10)] 3)).grown hgrow (by have := hB.out.size; simp; omega) (fun k e => ((hown.out.alloc (.cells #[.int .i64 0] 3)).lt k e).1)
        refine ⟨⟨1, n + 1, out ++ [(d : Int)], rfl, rfl, by omega, by omega, Lib.hid p3, Lib.hid p4, Lib.hid ?_, Lib.hid hB3⟩, ?_⟩
        · rw [hdv.out]; simpa [intV] using hown'
        · simp only [intOf]; omega
      · have tn : decide ((x : Int) - (y : Int) - (c : Int) < 0) = false := decide_eq_false (by omega)
        obtain ⟨d, hd⟩ : ∃ d : Nat, d = x - (y + c) := ⟨_, rfl⟩
        have hdv : (d : Int) = ((x : Int) - (y : Int) - (c : Int)) := by omega
        have hstep := Lib.hid (hst.out d 0 (by omega) (by omega))
        replace hdv := Lib.hid hdv
        clear hd
        go_wp2_with fail
        go_quiet (first | (go_at_call 44; exact Calls.quiet_of_same (hD2.out _)))
        go_wp2_with (at_builtin; refine wpList_append_own _ rfl _ _ 35 rfl w.heap.size 3 i0 (.int .i64 0) 1 8 Try.underlying35 hi hz0 hz1 hz2 rfl (by decide) _ _ _ rfl ((show (wr.drewN nq).ownsRow w.heap.size 3 1 _ n (intV out) from hown.out).alloc _) ⟨wr.heap.size, 0, none⟩ 1 1 [.int .i64 _] rfl rfl (cell_one_new _ _ _) (by simp [Value.oneCell']) (by unfold maxLen; omega) (by omega) (by have := hB.out.size; simp; omega) ?_; intro v' w3 hown' hgrow _)
        obtain ⟨p3, p4⟩ := hstep.out
        have hB3 := ((below_drawn hB.out nq).alloc (by have := hB.out.size; simp; omega) (.cells #[.int .i64 ((x : Int) - (y : Int) - (c : Int))] 3)).grown hgrow (by have := hB.out.size; simp; omega) (fun k e => ((hown.out.alloc (.cells #[.int .i64 0] 3)).lt k e).1)
        refine ⟨⟨0, n + 1, out ++ [(d : Int)], rfl, rfl, by omega, by omega, Lib.hid p3, Lib.hid p4, Lib.hid ?_, Lib.hid hB3⟩, ?_⟩
        · rw [hdv.out]; simpa [intV] using hown'
        · simp only [intOf]; omega
    · have hIs : Is out (a - b) := by
        obtain ⟨i1, i2⟩ := hI.out
        have h := hl.out
        have hn' : na ≤ n := by omega
        obtain rfl : n = na := by omega
        rw [Nat.div_eq_of_lt htop.out] at i1
        have hz : (a - b) / 10 ^ n = 0 := by
          generalize (a - b) / 10 ^ n = S at i1 ⊢
          generalize b / 10 ^ n = B at i1
          omega
        exact ⟨by rw [h]; exact lt_pow_of_div hz, by rw [h]; exact i2⟩
      have hres : Hid (∀ v, wr.ownsRow w.heap.size 3 1 v n (intV out) → IntsAt wr v out ∧ Fresh w.heap.size v) := Lib.hid fun v h => ⟨IntsAt.own (e := 3) (base := w.heap.size) (by rw [hl.out]; exact h), Fresh.own h⟩
      replace hown := Lib.hid (hres.out _ hown.out)
      have hC := Lib.hid (hCut.out out wr hIs (by rw [hl.out]; omega) _ hown.out.1)
      clear hIs hres
      go_wp2_with fail
      refine hC.out.mono ?_
      rintro e w1 ⟨u, rfl, hu, hg, q, rfl⟩
      replace hu := Lib.hid hu
      have hf := Lib.hid (fun g h => hown.out.2 g (hg g h))
      clear hg
      go_wp2_with fail
      go_ret
      exact ⟨_, rfl, ⟨hu.out, hf.out⟩, below_drawn hB.out q⟩
end Go.Proofs.Ytacmheeodhjlbaa
