/- The reference's numbers: Mul. -/
import Derived.Test.YtacmheeodhjlbaaInt
namespace Go.Proofs.Ytacmheeodhjlbaa
open Go.RowKit Go.WideShapes

/-- One digit of a product's row more. -/
theorem mul_step {X d c k i n x : Nat} {row : List Int} (hl : row.length = n) (hn : n = i + k) (hc : c < 10) (hd : d < 10) (hx : X / 10 ^ k % 10 = x)
    (hS : X / 10 ^ k * d + c = X * d / 10 ^ k) (hrow : ∀ j, j < n → row.getD j 0 = ((X * d * 10 ^ i / 10 ^ j % 10 : Nat) : Int)) :
    (x * d + c) / 10 < 10 ∧ (row ++ [(((x * d + c) % 10 : Nat) : Int)]).length = n + 1 ∧ X / 10 ^ (k + 1) * d + (x * d + c) / 10 = X * d / 10 ^ (k + 1) ∧
    ∀ j, j < n + 1 → (row ++ [(((x * d + c) % 10 : Nat) : Int)]).getD j 0 = ((X * d * 10 ^ i / 10 ^ j % 10 : Nat) : Int) := by
  have hll : (row ++ [(((x * d + c) % 10 : Nat) : Int)]).length = n + 1 := by rw [List.length_append, hl, List.length_singleton]
  have hx9 : x < 10 := by omega
  have hxd : x * d ≤ 9 * 9 := Nat.mul_le_mul (by omega) (by omega)
  have hq : X * d * 10 ^ i / 10 ^ n = X * d / 10 ^ k := by
    rw [hn, Nat.pow_add, Nat.mul_comm (10 ^ i)]
    exact Nat.mul_div_mul_right _ _ (Nat.pow_pos (by omega))
  have hspl : X / 10 ^ k * d = 10 * (X / 10 ^ k / 10 * d) + x * d := by
    conv => lhs; rw [← Nat.div_add_mod (X / 10 ^ k) 10, hx]
    rw [Nat.add_mul, Nat.mul_assoc]
  rw [hspl] at hS
  refine ⟨by omega, hll, ?_, fun j hj => snoc_get (fun j => ((X * d * 10 ^ i / 10 ^ j % 10 : Nat) : Int)) (by rw [hl]; exact hrow) ?_ (by rw [hll]; exact hj)⟩
  · rw [div_pow_succ', div_pow_succ', ← hS]
    omega
  · rw [hl, hq, ← hS]
    omega
theorem mul_row_end {X d k i n : Nat} {row : List Int} (hl : row.length = n) (hn : n = i + k) (hX : X / 10 ^ k = 0)
    (hS : X / 10 ^ k * d + 0 = X * d / 10 ^ k) (hrow : ∀ j, j < n → row.getD j 0 = ((X * d * 10 ^ i / 10 ^ j % 10 : Nat) : Int)) : Is row (X * d * 10 ^ i) := by
  rw [hX, Nat.zero_mul] at hS
  have h := lt_pow_of_div hS.symm
  refine ⟨?_, by rw [hl]; exact hrow⟩
  rw [hl, hn, Nat.pow_add, Nat.mul_comm (10 ^ i)]
  exact Nat.mul_lt_mul_of_pos_right h (Nat.pow_pos (by omega))
theorem mul_all (X Y i : Nat) : X * (Y % 10 ^ i) + X * (Y / 10 ^ i % 10) * 10 ^ i = X * (Y % 10 ^ (i + 1)) := by
  rw [Nat.mod_pow_succ, Nat.mul_add, Nat.mul_assoc, Nat.mul_comm (Y / 10 ^ i % 10)]
theorem zeros_get (i j : Nat) (X d : Nat) (h : j < i) : (List.replicate i (0 : Int)).getD j 0 = ((X * d * 10 ^ i / 10 ^ j % 10 : Nat) : Int) := by
  have e : X * d * 10 ^ i / 10 ^ j % 10 = 0 := by
    obtain ⟨q, rfl⟩ : ∃ q, i = j + 1 + q := ⟨i - (j + 1), by omega⟩
    rw [show X * d * 10 ^ (j + 1 + q) = 10 ^ j * (10 * (X * d * 10 ^ q)) by rw [Nat.pow_add, Nat.pow_succ]; ac_rfl, Nat.mul_div_cancel_left _ (Nat.pow_pos (by omega)), Nat.mul_mod_right]
  rw [e, List.getD_eq_getElem?_getD, List.getElem?_replicate]
  simp [h]
set_option maxRecDepth 100000 in
set_option maxHeartbeats 8000000 in
theorem mul_walk (bx bY : Bool) (X Y : Nat) (hX : (digs X).length ≤ 1000) (hY : (digs Y).length ≤ 1000) (sx sy : Value) (w : World) (hs : IntsAt w sx (digs X)) (ht : IntsAt w sy (digs Y)) :
    Calls Try.prog 37 #[.agg #[.bool bx, sx], .agg #[.bool bY, sy]] w fun e w' => ∃ r, e = .returned (.agg #[.bool (decide (0 < (digs (X * Y)).length) && (bx != bY)), r]) ∧ (IntsAt w' r (digs (X * Y)) ∧ Fresh w.heap.size r) ∧ Below w.heap.size w w' := by
  obtain ⟨i0, hi, hz0, hz1, hz2⟩ := info_parts info_int
  have hDX := fun (i : Nat) (hi : i ≤ 17592186044416) (wr : World) (hB : Below w.heap.size w wr) => digit_any (digs X) i sx wr (hs.below hB) (by omega) hi
  have hCY : ∀ i, i < (digs Y).length → ∀ wr, Below w.heap.size w wr → ∃ g off c, sy = .slice (some ⟨g, off, none⟩) (digs Y).length c ∧ wr.cell? ⟨g, off + i, none⟩ = some (.int .i64 ((Y / 10 ^ i % 10 : Nat) : Int)) := fun i hi wr hB => by
    obtain ⟨aa, ac, rfl⟩ := ht.len
    obtain ⟨g, off, rfl, hc⟩ := (ht.below hB).at (by omega)
    exact ⟨g, off, ac, rfl, by rw [hc i hi, digs_get]⟩
  have hgx := Lib.hid (digs_get X)
  have htx := Lib.hid (digs_top X)
  have hty := Lib.hid (digs_top Y)
  replace hDX := Lib.hid hDX
  replace hCY := Lib.hid hCY
  obtain ⟨xa, xc, rfl⟩ := hs.len
  obtain ⟨ya, yc, rfl⟩ := ht.len
  clear hs ht
  have hlx := Lib.hid (digs_lt X)
  generalize hdx : digs X = dx at *
  generalize hdy : digs Y = dy at *
  replace hdx := Lib.hid hdx
  replace hdy := Lib.hid hdy
  generalize dx.length = nx at *
  generalize dy.length = ny at *
  go_enter Try.func37, Try.ntmps37
  go_wp2_with fail
  go_loopw [5, 6, 7, 8, 9, 10, 11] (fun v5 v6 _ _ _ _ _ wr => ∃ (i : Nat) (la : List Int), v6 = .int .i64 i ∧ i ≤ ny ∧ Hid (Is la (X * (Y % 10 ^ i))) ∧ Hid (la.length ≤ nx + i + 1) ∧ Hid (IntsAt wr v5 la) ∧ Hid (Fresh (w.heap.size + 3) v5) ∧ Hid (Blk wr w.heap.size #[.bool bx, .slice xa nx xc] 39) ∧ Hid (Blk wr (w.heap.size + 1) #[.bool bY, .slice ya ny yc] 39) ∧ Hid (Blk wr (w.heap.size + 1 + 1) #[.bool false, .slice none 0 0] 39) ∧ Hid (Below w.heap.size w wr) ∧ w.heap.size + 3 ≤ wr.heap.size) (fun _ v6 _ _ _ _ _ _ => ny - (intOf v6).toNat)
  case atStart =>
    refine ⟨0, [], rfl, by omega, Lib.hid ⟨by simp [Nat.mod_one], fun i hi => by simp at hi⟩, Lib.hid (by simp), Lib.hid (.inl ⟨rfl, none, 0, rfl⟩), Lib.hid (fun g hg => by cases hg), Lib.hid (((Blk.new _ _ _).alloc _).alloc _), Lib.hid (Blk.alloc ?_ _), Lib.hid ?_, Lib.hid ((((Below.refl _ w).alloc (Nat.le_refl _) _).alloc (by simp) _).alloc (by simp; omega) _), by simp⟩
    · have := Blk.new (w.alloc (.cells #[.bool bx, .slice xa nx xc] 39)) #[.bool bY, .slice ya ny yc] 39
      simpa using this
    · have := Blk.new ((w.alloc (.cells #[.bool bx, .slice xa nx xc] 39)).alloc (.cells #[.bool bY, .slice ya ny yc] 39)) #[.bool false, .slice none 0 0] 39
      simpa using this
  case round =>
    obtain ⟨i, la, rfl, hiy, hla, hlal, hlaA, hlaF, hb0, hb1, hb2, hB, hsz⟩ := hrel
    generalize wr = W0 at *
    have c10 : W0.cell? ⟨w.heap.size + 1, 1, none⟩ = some (.slice ya ny yc) := hb1.out.cell rfl
    have c00 : W0.cell? ⟨w.heap.size, 1, none⟩ = some (.slice xa nx xc) := hb0.out.cell rfl
    by_cases hlt : i < ny
    · go_wp2_with fail
      go_loopw [7, 8] (fun v7 v8 wi => ∃ k : Nat, v8 = .int .i64 k ∧ k ≤ i ∧ Hid (wi.ownsRow W0.heap.size 3 1 v7 k (intV (List.replicate k 0))) ∧ Hid (Below W0.heap.size W0 wi)) (fun _ v8 _ => i - (intOf v8).toNat)
      case atStart => exact ⟨0, rfl, by omega, Lib.hid (World.ownsRow_nil _ _ _ _), Lib.hid (Below.refl _ _)⟩
      case round =>
        obtain ⟨k, rfl, hk, hown, hBi⟩ := hrel
        by_cases hki : k < i
        · go_wp2_with (at_builtin; refine wpList_append_own _ rfl _ _ 35 rfl W0.heap.size 3 i0 (.int .i64 0) 1 8 Try.underlying35 hi hz0 hz1 hz2 rfl (by decide) _ _ _ rfl (hown.out.alloc _) ⟨wr.heap.size, 0, none⟩ 1 1 [.int .i64 0] rfl rfl (cell_one_new _ _ _) (by simp [Value.oneCell']) (by unfold maxLen; omega) (by omega) (by have := hBi.out.size; simp; omega) ?_; intro v' w3 hown' hgrow _)
          have hB3 := (hBi.out.alloc hBi.out.size (.cells #[.int .i64 0] 3)).grown hgrow (by have := hBi.out.size; simp; omega) (fun k e => ((hown.out.alloc (.cells #[.int .i64 0] 3)).lt k e).1)
          refine ⟨⟨k + 1, rfl, by omega, Lib.hid ?_, Lib.hid hB3⟩, ?_⟩
          · rw [List.replicate_succ']; simpa [intV] using hown'
          · simp only [intOf]; omega
        · obtain rfl : i = k := by omega
          clear hki hk
          obtain ⟨d, hd⟩ : ∃ d, d = Y / 10 ^ i % 10 := ⟨_, rfl⟩
          have hd9 : d < 10 := by omega
          replace hd := Lib.hid hd
          go_wp2_with fail
          go_loopw [7, 9, 10, 11] (fun v7 v9 v10 _ wi => ∃ (k c : Nat) (row : List Int), v9 = .int .i64 c ∧ v10 = .int .i64 k ∧ c < 10 ∧ (k ≤ nx ∨ (k = nx + 1 ∧ c = 0)) ∧ Hid (row.length = i + k) ∧ Hid (X / 10 ^ k * d + c = X * d / 10 ^ k) ∧ Hid (∀ j, j < i + k → row.getD j 0 = ((X * d * 10 ^ i / 10 ^ j % 10 : Nat) : Int)) ∧ Hid (wi.ownsRow W0.heap.size 3 1 v7 (i + k) (intV row)) ∧ Hid (Below W0.heap.size W0 wi)) (fun _ _ v10 _ _ => nx + 2 - (intOf v10).toNat)
          case atStart =>
            exact ⟨0, 0, List.replicate i 0, rfl, rfl, by omega, by omega, Lib.hid (by simp), Lib.hid (by simp), Lib.hid (fun j hj => zeros_get i j X d hj), hown, hBi⟩
          case round =>
            clear hown hBi
            obtain ⟨k, c, row, rfl, rfl, hc9, hkn, hrl, hS, hrow, hown, hBi⟩ := hrel
            have hBw : Hid (Below w.heap.size w wr) := Lib.hid (hB.out.trans (hBi.out.mono hB.out.size))
            have e00 : wr.cell? ⟨w.heap.size, 1, none⟩ = some (.slice xa nx xc) := (hBi.out.cell (p := ⟨w.heap.size, 1, none⟩) (show w.heap.size < W0.heap.size by omega)).trans c00
            have e10 : wr.cell? ⟨w.heap.size + 1, 1, none⟩ = some (.slice ya ny yc) := (hBi.out.cell (p := ⟨w.heap.size + 1, 1, none⟩) (show w.heap.size + 1 < W0.heap.size by omega)).trans c10
            have hD1 := Lib.hid (fun q => hDX.out k (by omega) (wr.drewN q) (below_drawn hBw.out q))
            rw [hgx.out] at hD1
            obtain ⟨g, off, yc', e, hy⟩ := hCY.out i hlt wr hBw.out
            cases e
            rw [← hd.out] at hy
            have hst := mul_step (x := X / 10 ^ k % 10) (d := d) (c := c) (i := i) (row := row) hrl.out rfl hc9 hd9 rfl hS.out hrow.out
            have hx9 : X / 10 ^ k % 10 < 10 := by omega
            have hX0 : ¬ k < nx → Hid (X / 10 ^ k = 0) := fun h => Lib.hid (Nat.eq_zero_of_not_pos (fun hp => h ((hlx.out k).2 hp)))
            have hx0 : ¬ k < nx → X / 10 ^ k % 10 = 0 := fun h => by rw [(hX0 h).out]
            generalize X / 10 ^ k % 10 = x at *
            have hp0 : ¬ k < nx → x * d = 0 := fun h => by rw [hx0 h, Nat.zero_mul]
            clear hx0
            have hxd : x * d ≤ 9 * 9 := Nat.mul_le_mul (by omega) (by omega)
            have hw1 : IntKind.i64.wrap ((x : Int) * (d : Int)) = ((x * d : Nat) : Int) := by rw [Int.natCast_mul]; exact IntWalk.i64_in _ (by rw [← Int.natCast_mul]; omega)
            generalize x * d = p at *
            have hw2 : IntKind.i64.wrap ((p : Int) + (c : Int)) = (p : Int) + (c : Int) := IntWalk.i64_in _ (by omega)
            have hm10 : ((p : Int) + (c : Int)).tmod 10 = (((p + c) % 10 : Nat) : Int) := by rw [Int.tmod_eq_emod_of_nonneg (by omega)]; omega
            have hd10 : ((p : Int) + (c : Int)).tdiv 10 = (((p + c) / 10 : Nat) : Int) := by rw [Int.tdiv_eq_ediv_of_nonneg (by omega)]; omega
            have hi0 : (0 : Int) ≤ (i : Int) := by omega
            have hi1 : (i : Int) < (ny : Int) := by omega
            replace hst := Lib.hid hst
            have hcase : (k < nx) ∨ (¬ k < nx ∧ 0 < c) ∨ (¬ k < nx ∧ c = 0) := by omega
            rcases hcase with h1 | ⟨h1, h2⟩ | ⟨h1, rfl⟩
            · clear hp0 hX0
              go_wp2_with fail
              go_quiet (first | (go_at_call 44; exact Calls.quiet_of_same (hD1.out _)))
              go_wp2_with (at_builtin; refine wpList_append_own _ rfl _ _ 35 rfl W0.heap.size 3 i0 (.int .i64 0) 1 8 Try.underlying35 hi hz0 hz1 hz2 rfl (by decide) _ _ _ rfl ((show (wr.drewN nq).ownsRow W0.heap.size 3 1 _ (i + k) (intV row) from hown.out).alloc _) ⟨wr.heap.size, 0, none⟩ 1 1 [.int .i64 _] rfl rfl (cell_one_new _ _ _) (by simp [Value.oneCell']) (by unfold maxLen; omega) (by omega) (by have := hBi.out.size; simp; omega) ?_; intro v' w3 hown' hgrow _)
              obtain ⟨p1, p2, p3, p4⟩ := hst.out
              have hB3 := ((below_drawn hBi.out nq).alloc (by have := hBi.out.size; simp; omega) (.cells #[.int .i64 (((p : Int) + (c : Int)) % 10)] 3)).grown hgrow (by have := hBi.out.size; simp; omega) (fun k e => ((hown.out.alloc (.cells #[.int .i64 0] 3)).lt k e).1)
              refine ⟨⟨k + 1, (p + c) / 10, row ++ [(((p + c) % 10 : Nat) : Int)], congrArg (Value.int .i64) (by omega), rfl, p1, .inl (by omega), Lib.hid p2, Lib.hid p3, Lib.hid p4, Lib.hid ?_, Lib.hid hB3⟩, ?_⟩
              · have e : intV (row ++ [(((p + c) % 10 : Nat) : Int)]) = intV row ++ [.int .i64 (((p : Int) + (c : Int)) % 10)] := by simp [intV]
                rw [e]; exact hown'
              · simp only [intOf]; omega
            · have hp := hp0 h1
              clear hp0 hX0
              have hkx : k = nx := by omega
              replace hp := Lib.hid hp
              replace hkx := Lib.hid hkx
              go_wp2_with fail
              go_quiet (first | (go_at_call 44; exact Calls.quiet_of_same (hD1.out _)))
              go_wp2_with (at_builtin; refine wpList_append_own _ rfl _ _ 35 rfl W0.heap.size 3 i0 (.int .i64 0) 1 8 Try.underlying35 hi hz0 hz1 hz2 rfl (by decide) _ _ _ rfl ((show (wr.drewN nq).ownsRow W0.heap.size 3 1 _ (i + k) (intV row) from hown.out).alloc _) ⟨wr.heap.size, 0, none⟩ 1 1 [.int .i64 _] rfl rfl (cell_one_new _ _ _) (by simp [Value.oneCell']) (by unfold maxLen; omega) (by omega) (by have := hBi.out.size; simp; omega) ?_; intro v' w3 hown' hgrow _)
              obtain ⟨p1, p2, p3, p4⟩ := hst.out
              have hB3 := ((below_drawn hBi.out nq).alloc (by have := hBi.out.size; simp; omega) (.cells #[.int .i64 (((p : Int) + (c : Int)) % 10)] 3)).grown hgrow (by have := hBi.out.size; simp; omega) (fun k e => ((hown.out.alloc (.cells #[.int .i64 0] 3)).lt k e).1)
              refine ⟨⟨k + 1, (p + c) / 10, row ++ [(((p + c) % 10 : Nat) : Int)], congrArg (Value.int .i64) (by omega), rfl, p1, .inr ⟨by have := hkx.out; omega, by have := hp.out; omega⟩, Lib.hid p2, Lib.hid p3, Lib.hid p4, Lib.hid ?_, Lib.hid hB3⟩, ?_⟩
              · have e : intV (row ++ [(((p + c) % 10 : Nat) : Int)]) = intV row ++ [.int .i64 (((p : Int) + (c : Int)) % 10)] := by simp [intV]
                rw [e]; exact hown'
              · simp only [intOf]; omega
            · have hI2 := Lib.hid (mul_row_end (row := row) hrl.out rfl (hX0 h1).out hS.out hrow.out)
              have hrA := Lib.hid (IntsAt.own (l := row) (by rw [hrl.out]; exact hown.out))
              have haA := Lib.hid (hlaA.out.below hBi.out)
              have hT := Lib.hid (together_any la row _ _ (nx + i + 1) hla.out hI2.out hlal.out (by rw [hrl.out]; omega) (by omega) _ _ wr haA.out hrA.out)
              clear hp0 hX0 hst hD1 hw1 hw2 hm10 hd10 hc9 hkn e10 hx9 hxd hy
              go_wp2_with fail
              refine hT.out.mono ?_
              rintro e w2 ⟨u, r, rfl, ⟨hu, hf⟩, hIs, hrl2, _, hB2⟩
              have hBB : Below W0.heap.size W0 w2 := hBi.out.trans (hB2.mono hBi.out.size)
              have hsz2 := hBB.size
              have hIs2 : Is r (X * (Y % 10 ^ (i + 1))) := by rw [← mul_all, ← hd.out]; exact hIs
              have g0 := Lib.hid (hb0.out.below hBB (by omega))
              have g1 := Lib.hid (hb1.out.below hBB (by omega))
              have g2 := Lib.hid (hb2.out.below hBB (by omega))
              have hBw2 := Lib.hid (hB.out.trans (hBB.mono hB.out.size))
              have hf2 : Fresh (w.heap.size + 3) u := hf.mono (by have := hBi.out.size; omega)
              replace hu := Lib.hid hu
              replace hf2 := Lib.hid hf2
              replace hIs2 := Lib.hid hIs2
              replace hrl2 := Lib.hid hrl2
              clear hf hIs hBB
              go_wp2_with fail
              refine ⟨⟨i + 1, r, rfl, by omega, hIs2, hrl2, hu, hf2, g0, g1, g2, hBw2, by omega⟩, ?_⟩
              simp only [intOf]; omega
    · obtain rfl : i = ny := by omega
      have hC := Lib.hid (fun wr' (h : IntsAt wr' u5 la) => cut_any la (X * Y) (by have := hla.out; rwa [Nat.mod_eq_of_lt hty.out] at this) (by have := hlal.out; omega) u5 wr' h)
      go_wp2_with fail
      refine (hC.out _ hlaA.out).mono ?_
      rintro e w2 ⟨u, rfl, hu, hg, q, rfl⟩
      have hf : Fresh (w.heap.size + 3) u := fun g h => hlaF.out g (hg g h)
      obtain ⟨Ao, co, rfl⟩ := hu.len
      replace hu := Lib.hid hu
      replace hf := Lib.hid hf
      clear hg hC
      have d0 : (W0.drewN q).cell? ⟨w.heap.size, 0, none⟩ = some (.bool bx) := hb0.out.cell rfl
      have d1 : (W0.drewN q).cell? ⟨w.heap.size + 1, 0, none⟩ = some (.bool bY) := hb1.out.cell rfl
      have d2 : (W0.drewN q).cell? ⟨w.heap.size + 1 + 1, 0, none⟩ = some (.bool false) := hb2.out.cell rfl
      have d3 : (W0.drewN q).cell? ⟨w.heap.size + 1 + 1, 1, none⟩ = some (.slice none 0 0) := hb2.out.cell rfl
      have f2 : (W0.drewN q).frozen? ⟨w.heap.size + 1 + 1, 0, none⟩ = false := hb2.out.free 0
      have f3 : (W0.drewN q).frozen? ⟨w.heap.size + 1 + 1, 1, none⟩ = false := hb2.out.free 1
      have hb2' : Hid (Blk (W0.drewN q) (w.heap.size + 1 + 1) #[.bool false, .slice none 0 0] 39) := hb2
      have hB3 := Lib.hid (below_drawn hB.out q)
      clear c10 c00
      generalize W0.drewN q = W3 at *
      by_cases hpos : 0 < (digs (X * Y)).length
      · have tp : decide (0 < (digs (X * Y)).length) = true := decide_eq_true hpos
        go_wp2_with fail
        refine bodyPost_ret (v := .agg #[.bool (!bx == bY), .slice Ao (digs (X * Y)).length co]) (results_cell_row (fn := Try.f37) rfl _ _ (w.heap.size + 1 + 1) 39 _ (0, 0) _ rfl (heap_setCell_same _ _ _ _ _ _ (heap_setCell_same _ _ _ _ _ _ hb2'.out.eq)) Try.underlying39 rfl (by kernel_rfl)) rfl ?_
        refine ⟨_, ?_, ⟨(hu.out.setCell hf.out (by simp) _).setCell hf.out (by simp) _, hf.out.mono (by omega)⟩, (hB3.out.setCell (by simp; omega) _).setCell (by simp; omega) _⟩
        rw [tp, Bool.true_and]
        cases bx <;> cases bY <;> rfl
      · have tp : decide (0 < (digs (X * Y)).length) = false := decide_eq_false hpos
        go_wp2_with fail
        refine bodyPost_ret (v := .agg #[.bool false, .slice Ao (digs (X * Y)).length co]) (results_cell_row (fn := Try.f37) rfl _ _ (w.heap.size + 1 + 1) 39 _ (0, 0) _ rfl (heap_setCell_same _ _ _ _ _ _ (heap_setCell_same _ _ _ _ _ _ hb2'.out.eq)) Try.underlying39 rfl (by kernel_rfl)) rfl ?_
        refine ⟨_, ?_, ⟨(hu.out.setCell hf.out (by simp) _).setCell hf.out (by simp) _, hf.out.mono (by omega)⟩, (hB3.out.setCell (by simp; omega) _).setCell (by simp; omega) _⟩
        rw [tp, Bool.false_and]
end Go.Proofs.Ytacmheeodhjlbaa
