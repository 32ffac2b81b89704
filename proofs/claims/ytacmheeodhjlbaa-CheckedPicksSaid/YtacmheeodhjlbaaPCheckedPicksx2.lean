-- Printed by this session's program over the kit's print, with given functions.
import Derived.Test.YtacmheeodhjlbaaPCheckedPicksx0
import Derived.Test.YtacmheeodhjlbaaPCheckedPicksx1
namespace Go.Proofs.Ytacmheeodhjlbaa.PCheckedPicks
open Go.RowKit Go.Proofs.YtacmheeodhjlbaaW.PrintWords Go.Proofs.YtacmheeodhjlbaaW.PrintLast Go.Proofs.YtacmheeodhjlbaaW.PrintMore
attribute [local go_sem] max2_int min2_int max_two min_two max_three min_three max_four min_four   -- for this text's walks alone
set_option linter.unusedVariables false
set_option linter.unusedSimpArgs false

/-! ### chordmaillaw03_CheckedPicks: function 5 -/
mutual
def chordmaillaw03_CheckedPicks.j0 : Nat → Int → Int → Int → Bool → Option (Bool)
  | 0, _, _, _, _ => none
  | k + 1, x0, x1, x5, x37 => if x37 = true then (some false) else (if x0 < 9223372036854775807 then ((checked_Euclid.f (wrap64 (x0 + 1)) x1).bind fun bt123 => (if bt123.2 = 0 then (if x1 = 0 then (none) else (if bt123.1 = (Int.tmod (wrap64 (x5 + 1)) x1) then (if (wrap64 (x5 + 1)) = x1 then (chordmaillaw03_CheckedPicks.j1 k x0 x1 x5 (bt123.1 != 0)) else (chordmaillaw03_CheckedPicks.j1 k x0 x1 x5 false)) else (if (wrap64 (x5 + 1)) < x1 then (chordmaillaw03_CheckedPicks.j1 k x0 x1 x5 true) else (if (wrap64 (x5 + 1)) = x1 then (chordmaillaw03_CheckedPicks.j1 k x0 x1 x5 (bt123.1 != 0)) else (chordmaillaw03_CheckedPicks.j1 k x0 x1 x5 false))))) else (chordmaillaw03_CheckedPicks.j1 k x0 x1 x5 true))) else (if x0 < 0 then ((checked_Euclid.f (wrap64 (x0 + x1)) x1).bind fun bt127 => (if bt127.2 = 0 then (some (bt127.1 == x5)) else (some false))) else (if x0 ≥ x1 then (some true) else (some (x5 == x0)))))
def chordmaillaw03_CheckedPicks.j1 : Nat → Int → Int → Int → Bool → Option (Bool)
  | 0, _, _, _, _ => none
  | k + 1, x0, x1, x5, x72 => if x72 = true then (some false) else (if x0 < 0 then ((checked_Euclid.f (wrap64 (x0 + x1)) x1).bind fun bt125 => (if bt125.2 = 0 then (some (bt125.1 == x5)) else (some false))) else (if x0 ≥ x1 then (some true) else (some (x5 == x0))))
end
def chordmaillaw03_CheckedPicks.f (k : Nat) (a0 : Int) (a1 : Int) : Option (Bool) := (chordmaillaw03_awake.f k).bind fun t120 => (if t120 = true then ((checked_Euclid.f a0 a1).bind fun bt121 => (if a1 < 1 then (if bt121.2 = 2 then (some (bt121.1 == 0)) else (some false)) else (if bt121.2 = 0 then (if bt121.1 < 0 then (chordmaillaw03_CheckedPicks.j0 k a0 a1 bt121.1 true) else (chordmaillaw03_CheckedPicks.j0 k a0 a1 bt121.1 (decide (bt121.1 ≥ a1)))) else (chordmaillaw03_CheckedPicks.j0 k a0 a1 bt121.1 true)))) else (some false))
theorem chordmaillaw03_CheckedPicks.mono_l : ∀ k, (∀ y0 y1 y2 y3, LeO (chordmaillaw03_CheckedPicks.j0 k y0 y1 y2 y3) (chordmaillaw03_CheckedPicks.j0 (k + 1) y0 y1 y2 y3)) ∧ (∀ y0 y1 y2 y3, LeO (chordmaillaw03_CheckedPicks.j1 k y0 y1 y2 y3) (chordmaillaw03_CheckedPicks.j1 (k + 1) y0 y1 y2 y3))
  | 0 => ⟨fun _ _ _ _ r h => by simp [chordmaillaw03_CheckedPicks.j0] at h, fun _ _ _ _ r h => by simp [chordmaillaw03_CheckedPicks.j1] at h⟩
  | k + 1 => by
    obtain ⟨ih0, ih1⟩ := chordmaillaw03_CheckedPicks.mono_l k
    refine ⟨?_, ?_⟩
    · intro y0 y1 y2 y3
      unfold chordmaillaw03_CheckedPicks.j0
      repeat' first
      | (with_reducible exact ih0 _ _ _ _)
      | (with_reducible exact ih1 _ _ _ _)
      | (with_reducible exact chordmaillaw03_awake.mono _)
      | (with_reducible exact LeO.refl _)
      | (with_reducible exact LeO.none _)
      | (with_reducible refine LeO.ite ?_ ?_)
      | (with_reducible refine LeO.bind ?_ (fun _ => ?_))
      | exact ih0 _ _ _ _
      | exact ih1 _ _ _ _
      | exact chordmaillaw03_awake.mono _
      | exact LeO.none _
      | refine LeO.ite ?_ ?_
      | refine LeO.bind ?_ (fun _ => ?_)
    · intro y0 y1 y2 y3
      unfold chordmaillaw03_CheckedPicks.j1
      repeat' first
      | (with_reducible exact ih0 _ _ _ _)
      | (with_reducible exact ih1 _ _ _ _)
      | (with_reducible exact chordmaillaw03_awake.mono _)
      | (with_reducible exact LeO.refl _)
      | (with_reducible exact LeO.none _)
      | (with_reducible refine LeO.ite ?_ ?_)
      | (with_reducible refine LeO.bind ?_ (fun _ => ?_))
      | exact ih0 _ _ _ _
      | exact ih1 _ _ _ _
      | exact chordmaillaw03_awake.mono _
      | exact LeO.none _
      | refine LeO.ite ?_ ?_
      | refine LeO.bind ?_ (fun _ => ?_)
theorem chordmaillaw03_CheckedPicks.mono : ∀ a0 a1 k, LeO (chordmaillaw03_CheckedPicks.f k a0 a1) (chordmaillaw03_CheckedPicks.f (k + 1) a0 a1) := by
  intro a0 a1 k
  obtain ⟨ih0, ih1⟩ := chordmaillaw03_CheckedPicks.mono_l k
  unfold chordmaillaw03_CheckedPicks.f
  repeat' first
      | (with_reducible exact ih0 _ _ _ _)
      | (with_reducible exact ih1 _ _ _ _)
      | (with_reducible exact chordmaillaw03_awake.mono _)
      | (with_reducible exact LeO.refl _)
      | (with_reducible exact LeO.none _)
      | (with_reducible refine LeO.ite ?_ ?_)
      | (with_reducible refine LeO.bind ?_ (fun _ => ?_))
      | exact ih0 _ _ _ _
      | exact ih1 _ _ _ _
      | exact chordmaillaw03_awake.mono _
      | exact LeO.none _
      | refine LeO.ite ?_ ?_
      | refine LeO.bind ?_ (fun _ => ?_)
set_option maxHeartbeats 8000000 in
set_option maxRecDepth 100000 in
theorem chordmaillaw03_CheckedPicks.calls (k : Nat) (a0 : Int) (a1 : Int) (r : Bool) (w : World) (h : chordmaillaw03_CheckedPicks.f k a0 a1 = some r) :
    Calls Try.prog 5 #[.int .i64 a0, .int .i64 a1] w fun e w' => e = .returned (.bool r) ∧ Below w.heap.size w w' := by
  have HB := Aside0.mk (Below.refl w.heap.size w)
  have H : ((chordmaillaw03_awake.f k).bind fun t120 => (if t120 = true then ((checked_Euclid.f a0 a1).bind fun bt121 => (if a1 < 1 then (if bt121.2 = 2 then (some (bt121.1 == 0)) else (some false)) else (if bt121.2 = 0 then (if bt121.1 < 0 then (chordmaillaw03_CheckedPicks.j0 k a0 a1 bt121.1 true) else (chordmaillaw03_CheckedPicks.j0 k a0 a1 bt121.1 (decide (bt121.1 ≥ a1)))) else (chordmaillaw03_CheckedPicks.j0 k a0 a1 bt121.1 true)))) else (some false))) = some r := h
  clear h
  replace H := Option.bind_eq_some_iff.mp H
  obtain ⟨t120, A30, H⟩ := H
  replace H : (if t120 = true then ((checked_Euclid.f a0 a1).bind fun bt121 => (if a1 < 1 then (if bt121.2 = 2 then (some (bt121.1 == 0)) else (some false)) else (if bt121.2 = 0 then (if bt121.1 < 0 then (chordmaillaw03_CheckedPicks.j0 k a0 a1 bt121.1 true) else (chordmaillaw03_CheckedPicks.j0 k a0 a1 bt121.1 (decide (bt121.1 ≥ a1)))) else (chordmaillaw03_CheckedPicks.j0 k a0 a1 bt121.1 true)))) else (some false)) = some r := H
  have A3 := Aside0.mk A30
  clear A30
  by_cases c4 : t120 = true
  · subst c4
    have H1 : ((checked_Euclid.f a0 a1).bind fun bt121 => (if a1 < 1 then (if bt121.2 = 2 then (some (bt121.1 == 0)) else (some false)) else (if bt121.2 = 0 then (if bt121.1 < 0 then (chordmaillaw03_CheckedPicks.j0 k a0 a1 bt121.1 true) else (chordmaillaw03_CheckedPicks.j0 k a0 a1 bt121.1 (decide (bt121.1 ≥ a1)))) else (chordmaillaw03_CheckedPicks.j0 k a0 a1 bt121.1 true)))) = some r := by rw [if_pos rfl] at H; exact H
    clear H
    have H := H1
    clear H1
    replace H := Option.bind_eq_some_iff.mp H
    obtain ⟨⟨t121, t122⟩, A50, H⟩ := H
    replace H : (if a1 < 1 then (if t122 = 2 then (some (t121 == 0)) else (some false)) else (if t122 = 0 then (if t121 < 0 then (chordmaillaw03_CheckedPicks.j0 k a0 a1 t121 true) else (chordmaillaw03_CheckedPicks.j0 k a0 a1 t121 (decide (t121 ≥ a1)))) else (chordmaillaw03_CheckedPicks.j0 k a0 a1 t121 true))) = some r := H
    have A5 := Aside0.mk A50
    clear A50
    by_cases c6 : a1 < 1
    · rw [if_pos c6] at H
      have c6b0 : decide (a1 < 1) = true := decide_eq_true c6
      clear c6
      by_cases c7 : t122 = 2
      · rw [if_pos c7] at H
        have c7b0 : (t122 == 2) = true := beq_iff_eq.mpr c7
        have c7b1 : (t122 != 2) = false := bne_eq_false_iff_eq.mpr c7
        clear c7
        obtain rfl := Option.some.inj H
        go_enter Try.func5, Try.ntmps5
        go_wp2_with (first | ((with_reducible refine gate_callee (f := 23) rfl ?_); refine goesL_ (some 11) rfl rfl Try.func23 (by kernel_rfl) rfl #[] rfl (by (try simp only [List.map_toArray, List.map_cons, List.map_nil]); first | done | rfl | (simp only [List.length_drop, List.length_take]; rfl)) ?_; (with_reducible refine (chordmaillaw03_awake.calls k  true _ A3.out).mono ?_); rintro e w8 ⟨rfl, hb⟩; refine ⟨_, rfl, ?_⟩; have n0_ := Aside0.mk (below_step (by repeat (first | (with_reducible first | exact HB.out | apply below_alloc | apply pw_below_drewN | apply below_drew1) | exact HB.out)) hb); clear HB; have HB := n0_; clear n0_; (try clear hb); (try clear hb2); (try clear hk); (try clear hi)) | ((with_reducible refine gate_callee (f := 9) rfl ?_); refine goesL_ (some 16) rfl rfl Try.func9 (by kernel_rfl) rfl #[.int .i64 a0, .int .i64 a1] rfl (by (try simp only [List.map_toArray, List.map_cons, List.map_nil]); first | done | rfl | (simp only [List.length_drop, List.length_take]; rfl)) ?_; (with_reducible refine (checked_Euclid.calls a0 a1 t121 t122 _ A5.out).mono ?_); rintro e w' ⟨rfl, ⟨nd, rfl⟩⟩; refine ⟨_, rfl, ?_⟩))
        go_ret
        exact ⟨by first | rfl | (simp [errW_none, errW_some] <;> rfl) | (simp [*, errW_none, errW_some] <;> rfl), by repeat (first | (with_reducible first | exact HB.out | apply below_alloc | apply pw_below_drewN | apply below_drew1) | exact HB.out)⟩
      · rw [if_neg c7] at H
        have c7b0 : (t122 == 2) = false := beq_eq_false_iff_ne.mpr c7
        have c7b1 : (t122 != 2) = true := bne_iff_ne.mpr c7
        obtain rfl := Option.some.inj H
        go_enter Try.func5, Try.ntmps5
        go_wp2_with (first | ((with_reducible refine gate_callee (f := 23) rfl ?_); refine goesL_ (some 11) rfl rfl Try.func23 (by kernel_rfl) rfl #[] rfl (by (try simp only [List.map_toArray, List.map_cons, List.map_nil]); first | done | rfl | (simp only [List.length_drop, List.length_take]; rfl)) ?_; (with_reducible refine (chordmaillaw03_awake.calls k  true _ A3.out).mono ?_); rintro e w9 ⟨rfl, hb⟩; refine ⟨_, rfl, ?_⟩; have n0_ := Aside0.mk (below_step (by repeat (first | (with_reducible first | exact HB.out | apply below_alloc | apply pw_below_drewN | apply below_drew1) | exact HB.out)) hb); clear HB; have HB := n0_; clear n0_; (try clear hb); (try clear hb2); (try clear hk); (try clear hi)) | ((with_reducible refine gate_callee (f := 9) rfl ?_); refine goesL_ (some 16) rfl rfl Try.func9 (by kernel_rfl) rfl #[.int .i64 a0, .int .i64 a1] rfl (by (try simp only [List.map_toArray, List.map_cons, List.map_nil]); first | done | rfl | (simp only [List.length_drop, List.length_take]; rfl)) ?_; (with_reducible refine (checked_Euclid.calls a0 a1 t121 t122 _ A5.out).mono ?_); rintro e w' ⟨rfl, ⟨nd, rfl⟩⟩; refine ⟨_, rfl, ?_⟩))
        go_ret
        exact ⟨by first | rfl | (simp [errW_none, errW_some] <;> rfl) | (simp [*, errW_none, errW_some] <;> rfl), by repeat (first | (with_reducible first | exact HB.out | apply below_alloc | apply pw_below_drewN | apply below_drew1) | exact HB.out)⟩
    · rw [if_neg c6] at H
      have c6b0 : decide (a1 < 1) = false := decide_eq_false c6
      clear c6
      have HC10 := Aside0.mk H
      clear H
      go_enter Try.func5, Try.ntmps5
      go_upto_region 6 with (first | ((with_reducible refine gate_callee (f := 23) rfl ?_); refine goesL_ (some 11) rfl rfl Try.func23 (by kernel_rfl) rfl #[] rfl (by (try simp only [List.map_toArray, List.map_cons, List.map_nil]); first | done | rfl | (simp only [List.length_drop, List.length_take]; rfl)) ?_; (with_reducible refine (chordmaillaw03_awake.calls k  true _ A3.out).mono ?_); rintro e w11 ⟨rfl, hb⟩; refine ⟨_, rfl, ?_⟩; have n0_ := Aside0.mk (below_step (by repeat (first | (with_reducible first | exact HB.out | apply below_alloc | apply pw_below_drewN | apply below_drew1) | exact HB.out)) hb); clear HB; have HB := n0_; clear n0_; (try clear hb); (try clear hb2); (try clear hk); (try clear hi)) | ((with_reducible refine gate_callee (f := 9) rfl ?_); refine goesL_ (some 16) rfl rfl Try.func9 (by kernel_rfl) rfl #[.int .i64 a0, .int .i64 a1] rfl (by (try simp only [List.map_toArray, List.map_cons, List.map_nil]); first | done | rfl | (simp only [List.length_drop, List.length_take]; rfl)) ?_; (with_reducible refine (checked_Euclid.calls a0 a1 t121 t122 _ A5.out).mono ?_); rintro e w' ⟨rfl, ⟨nd, rfl⟩⟩; refine ⟨_, rfl, ?_⟩))
      (try simp only [Act.put, List.setIfInBounds_toArray, List.set_cons_zero, List.set_cons_succ])
      go_cut [37] (fun v37 wc => ∃ (kq : Nat) (x37_9 : Bool), v37 = .bool x37_9 ∧ Aside0 (chordmaillaw03_CheckedPicks.j0 kq a0 a1 t121 x37_9 = some r) ∧ Aside0 (kq ≤ k) ∧ Aside0 (Below w.heap.size w wc))
      case first =>
        have H := HC10.out
        clear HC10
        by_cases c12 : t122 = 0
        · rw [if_pos c12] at H
          have c12b0 : (t122 == 0) = true := beq_iff_eq.mpr c12
          have c12b1 : (t122 != 0) = false := bne_eq_false_iff_eq.mpr c12
          clear c12
          (first | rw [c12b0] | (simp only [i64_w, i32_w]; rw [c12b0]) | skip)
          by_cases c13 : t121 < 0
          · rw [if_pos c13] at H
            have c13b0 : decide (t121 < 0) = true := decide_eq_true c13
            clear c13
            have H' := Aside0.mk H
            clear H
            go_wp2
            go_meet
            case rel => exact ⟨_, (true), (by first | rfl | (simp; done) | (simp [*]; done)), H', ⟨by first | omega | exact Nat.le_refl _⟩, ⟨by repeat (first | (with_reducible first | exact HB.out | apply below_alloc | apply pw_below_drewN | apply below_drew1) | exact HB.out)⟩⟩
          · rw [if_neg c13] at H
            have c13b0 : decide (t121 < 0) = false := decide_eq_false c13
            clear c13
            have H' := Aside0.mk H
            clear H
            go_wp2
            go_meet
            case rel => exact ⟨_, (decide (t121 ≥ a1)), (by first | rfl | (simp; done) | (simp [*]; done)), H', ⟨by first | omega | exact Nat.le_refl _⟩, ⟨by repeat (first | (with_reducible first | exact HB.out | apply below_alloc | apply pw_below_drewN | apply below_drew1) | exact HB.out)⟩⟩
        · rw [if_neg c12] at H
          have c12b0 : (t122 == 0) = false := beq_eq_false_iff_ne.mpr c12
          have c12b1 : (t122 != 0) = true := bne_iff_ne.mpr c12
          (first | rw [c12b0] | (simp only [i64_w, i32_w]; rw [c12b0]) | skip)
          have H' := Aside0.mk H
          clear H
          go_wp2
          go_meet
          case rel => exact ⟨_, (true), (by first | rfl | (simp; done) | (simp [*]; done)), H', ⟨by first | omega | exact Nat.le_refl _⟩, ⟨by repeat (first | (with_reducible first | exact HB.out | apply below_alloc | apply pw_below_drewN | apply below_drew1) | exact HB.out)⟩⟩
      case rest =>
        clear HC10
        try clear c1
        try clear c2
        try clear p2
        try clear c4
        try clear c5
        try clear c6
        try clear c6b0
        try clear c7
        try clear c7b0
        try clear c7b1
        try clear c9
        try clear c12
        try clear c12b0
        try clear c12b1
        try clear c13
        try clear c13b0
        obtain ⟨kq, x37_9, rfl, HA, HJ9, HB⟩ := hcut
        cases kq with
        | zero => exact absurd HA.out (by simp [chordmaillaw03_CheckedPicks.j0])
        | succ kj9 =>
          have H := HA.out
          clear HA
          simp only [chordmaillaw03_CheckedPicks.j0] at H
          by_cases c14 : x37_9 = true
          · subst c14
            have H1 : (some false) = some r := by rw [if_pos rfl] at H; exact H
            clear H
            have H := H1
            clear H1
            obtain rfl := Option.some.inj H
            go_wp2
            go_ret
            exact ⟨by first | rfl | (simp [errW_none, errW_some] <;> rfl) | (simp [*, errW_none, errW_some] <;> rfl), by repeat (first | (with_reducible first | exact HB.out | apply below_alloc | apply pw_below_drewN | apply below_drew1) | exact HB.out)⟩
          · replace c14 := Bool.eq_false_iff.mpr c14
            subst c14
            have H1 : (if a0 < 9223372036854775807 then ((checked_Euclid.f (wrap64 (a0 + 1)) a1).bind fun bt123 => (if bt123.2 = 0 then (if a1 = 0 then (none) else (if bt123.1 = (Int.tmod (wrap64 (t121 + 1)) a1) then (if (wrap64 (t121 + 1)) = a1 then (chordmaillaw03_CheckedPicks.j1 kj9 a0 a1 t121 (bt123.1 != 0)) else (chordmaillaw03_CheckedPicks.j1 kj9 a0 a1 t121 false)) else (if (wrap64 (t121 + 1)) < a1 then (chordmaillaw03_CheckedPicks.j1 kj9 a0 a1 t121 true) else (if (wrap64 (t121 + 1)) = a1 then (chordmaillaw03_CheckedPicks.j1 kj9 a0 a1 t121 (bt123.1 != 0)) else (chordmaillaw03_CheckedPicks.j1 kj9 a0 a1 t121 false))))) else (chordmaillaw03_CheckedPicks.j1 kj9 a0 a1 t121 true))) else (if a0 < 0 then ((checked_Euclid.f (wrap64 (a0 + a1)) a1).bind fun bt127 => (if bt127.2 = 0 then (some (bt127.1 == t121)) else (some false))) else (if a0 ≥ a1 then (some true) else (some (t121 == a0))))) = some r := by rw [if_neg (show ¬ (false = true) by decide)] at H; exact H
            clear H
            have H := H1
            clear H1
            by_cases c15 : a0 < 9223372036854775807
            · rw [if_pos c15] at H
              have c15b0 : decide (a0 < 9223372036854775807) = true := decide_eq_true c15
              clear c15
              replace H := Option.bind_eq_some_iff.mp H
              obtain ⟨⟨t123, t124⟩, A160, H⟩ := H
              replace H : (if t124 = 0 then (if a1 = 0 then (none) else (if t123 = (Int.tmod (wrap64 (t121 + 1)) a1) then (if (wrap64 (t121 + 1)) = a1 then (chordmaillaw03_CheckedPicks.j1 kj9 a0 a1 t121 (t123 != 0)) else (chordmaillaw03_CheckedPicks.j1 kj9 a0 a1 t121 false)) else (if (wrap64 (t121 + 1)) < a1 then (chordmaillaw03_CheckedPicks.j1 kj9 a0 a1 t121 true) else (if (wrap64 (t121 + 1)) = a1 then (chordmaillaw03_CheckedPicks.j1 kj9 a0 a1 t121 (t123 != 0)) else (chordmaillaw03_CheckedPicks.j1 kj9 a0 a1 t121 false))))) else (chordmaillaw03_CheckedPicks.j1 kj9 a0 a1 t121 true)) = some r := H
              have A16 := Aside0.mk A160
              clear A160
              have HC17 := Aside0.mk H
              clear H
              go_upto_region 10 with (first | ((with_reducible refine gate_callee (f := 9) rfl ?_); refine goesL_ (some 44) rfl rfl Try.func9 (by kernel_rfl) rfl #[.int .i64 (wrap64 (a0 + 1)), .int .i64 a1] rfl (by (try simp only [List.map_toArray, List.map_cons, List.map_nil]); first | done | rfl | (simp only [List.length_drop, List.length_take]; rfl)) ?_; (with_reducible refine (checked_Euclid.calls (wrap64 (a0 + 1)) a1 t123 t124 _ A16.out).mono ?_); rintro e w' ⟨rfl, ⟨nd, rfl⟩⟩; refine ⟨_, rfl, ?_⟩))
              (try simp only [Act.put, List.setIfInBounds_toArray, List.set_cons_zero, List.set_cons_succ])
              go_cut [72] (fun v72 wc => ∃ (kq : Nat) (x72_16 : Bool), v72 = .bool x72_16 ∧ Aside0 (chordmaillaw03_CheckedPicks.j1 kq a0 a1 t121 x72_16 = some r) ∧ Aside0 (kq ≤ kj9) ∧ Aside0 (Below w.heap.size w wc))
              case first =>
                have H := HC17.out
                clear HC17
                by_cases c18 : t124 = 0
                · rw [if_pos c18] at H
                  have c18b0 : (t124 == 0) = true := beq_iff_eq.mpr c18
                  have c18b1 : (t124 != 0) = false := bne_eq_false_iff_eq.mpr c18
                  clear c18
                  (first | rw [c18b0] | (simp only [i64_w, i32_w]; rw [c18b0]) | skip)
                  by_cases c19 : a1 = 0
                  · rw [if_pos c19] at H
                    exact absurd H (by simp)
                  · rw [if_neg c19] at H
                    have c19b0 : (a1 == 0) = false := beq_eq_false_iff_ne.mpr c19
                    have c19b1 : (a1 != 0) = true := bne_iff_ne.mpr c19
                    by_cases c20 : t123 = (Int.tmod (wrap64 (t121 + 1)) a1)
                    · rw [if_pos c20] at H
                      have c20b0 : (t123 == (Int.tmod (wrap64 (t121 + 1)) a1)) = true := beq_iff_eq.mpr c20
                      have c20b1 : (t123 != (Int.tmod (wrap64 (t121 + 1)) a1)) = false := bne_eq_false_iff_eq.mpr c20
                      clear c20
                      by_cases c21 : (wrap64 (t121 + 1)) = a1
                      · rw [if_pos c21] at H
                        have c21b0 : ((wrap64 (t121 + 1)) == a1) = true := beq_iff_eq.mpr c21
                        have c21b1 : ((wrap64 (t121 + 1)) != a1) = false := bne_eq_false_iff_eq.mpr c21
                        clear c21
                        have H' := Aside0.mk H
                        clear H
                        go_wp2
                        go_meet
                        case rel => exact ⟨_, ((t123 != 0)), (by first | rfl | (simp; done) | (simp [*]; done)), H', ⟨by have := HJ9.out; first | omega | exact Nat.le_refl _⟩, ⟨by repeat (first | (with_reducible first | exact HB.out | apply below_alloc | apply pw_below_drewN | apply below_drew1) | exact HB.out)⟩⟩
                      · rw [if_neg c21] at H
                        have c21b0 : ((wrap64 (t121 + 1)) == a1) = false := beq_eq_false_iff_ne.mpr c21
                        have c21b1 : ((wrap64 (t121 + 1)) != a1) = true := bne_iff_ne.mpr c21
                        have H' := Aside0.mk H
                        clear H
                        go_wp2
                        go_meet
                        case rel => exact ⟨_, (false), (by first | rfl | (simp; done) | (simp [*]; done)), H', ⟨by have := HJ9.out; first | omega | exact Nat.le_refl _⟩, ⟨by repeat (first | (with_reducible first | exact HB.out | apply below_alloc | apply pw_below_drewN | apply below_drew1) | exact HB.out)⟩⟩
                    · rw [if_neg c20] at H
                      have c20b0 : (t123 == (Int.tmod (wrap64 (t121 + 1)) a1)) = false := beq_eq_false_iff_ne.mpr c20
                      have c20b1 : (t123 != (Int.tmod (wrap64 (t121 + 1)) a1)) = true := bne_iff_ne.mpr c20
                      by_cases c22 : (wrap64 (t121 + 1)) < a1
                      · rw [if_pos c22] at H
                        have c22b0 : decide ((wrap64 (t121 + 1)) < a1) = true := decide_eq_true c22
                        clear c22
                        have H' := Aside0.mk H
                        clear H
                        go_wp2
                        go_meet
                        case rel => exact ⟨_, (true), (by first | rfl | (simp; done) | (simp [*]; done)), H', ⟨by have := HJ9.out; first | omega | exact Nat.le_refl _⟩, ⟨by repeat (first | (with_reducible first | exact HB.out | apply below_alloc | apply pw_below_drewN | apply below_drew1) | exact HB.out)⟩⟩
                      · rw [if_neg c22] at H
                        have c22b0 : decide ((wrap64 (t121 + 1)) < a1) = false := decide_eq_false c22
                        clear c22
                        by_cases c23 : (wrap64 (t121 + 1)) = a1
                        · rw [if_pos c23] at H
                          have c23b0 : ((wrap64 (t121 + 1)) == a1) = true := beq_iff_eq.mpr c23
                          have c23b1 : ((wrap64 (t121 + 1)) != a1) = false := bne_eq_false_iff_eq.mpr c23
                          clear c23
                          have H' := Aside0.mk H
                          clear H
                          go_wp2
                          go_meet
                          case rel => exact ⟨_, ((t123 != 0)), (by first | rfl | (simp; done) | (simp [*]; done)), H', ⟨by have := HJ9.out; first | omega | exact Nat.le_refl _⟩, ⟨by repeat (first | (with_reducible first | exact HB.out | apply below_alloc | apply pw_below_drewN | apply below_drew1) | exact HB.out)⟩⟩
                        · rw [if_neg c23] at H
                          have c23b0 : ((wrap64 (t121 + 1)) == a1) = false := beq_eq_false_iff_ne.mpr c23
                          have c23b1 : ((wrap64 (t121 + 1)) != a1) = true := bne_iff_ne.mpr c23
                          have H' := Aside0.mk H
                          clear H
                          go_wp2
                          go_meet
                          case rel => exact ⟨_, (false), (by first | rfl | (simp; done) | (simp [*]; done)), H', ⟨by have := HJ9.out; first | omega | exact Nat.le_refl _⟩, ⟨by repeat (first | (with_reducible first | exact HB.out | apply below_alloc | apply pw_below_drewN | apply below_drew1) | exact HB.out)⟩⟩
                · rw [if_neg c18] at H
                  have c18b0 : (t124 == 0) = false := beq_eq_false_iff_ne.mpr c18
                  have c18b1 : (t124 != 0) = true := bne_iff_ne.mpr c18
                  (first | rw [c18b0] | (simp only [i64_w, i32_w]; rw [c18b0]) | skip)
                  have H' := Aside0.mk H
                  clear H
                  go_wp2
                  go_meet
                  case rel => exact ⟨_, (true), (by first | rfl | (simp; done) | (simp [*]; done)), H', ⟨by have := HJ9.out; first | omega | exact Nat.le_refl _⟩, ⟨by repeat (first | (with_reducible first | exact HB.out | apply below_alloc | apply pw_below_drewN | apply below_drew1) | exact HB.out)⟩⟩
              case rest =>
                clear HC17
                try clear c1
                try clear c2
                try clear p2
                try clear c4
                try clear c5
                try clear c6
                try clear c6b0
                try clear p6
                try clear c7
                try clear c7b0
                try clear c7b1
                try clear c9
                try clear c12
                try clear c12b0
                try clear c12b1
                try clear c13
                try clear c13b0
                try clear c14
                try clear c15
                try clear c15b0
                try clear c18
                try clear c18b0
                try clear c18b1
                try clear c19
                try clear c19b0
                try clear c19b1
                try clear c20
                try clear c20b0
                try clear c20b1
                try clear c21
                try clear c21b0
                try clear c21b1
                try clear c22
                try clear c22b0
                try clear c23
                try clear c23b0
                try clear c23b1
                try clear p2
                obtain ⟨kq, x72_16, rfl, HA, HJ16, HB⟩ := hcut
                cases kq with
                | zero => exact absurd HA.out (by simp [chordmaillaw03_CheckedPicks.j1])
                | succ kj16 =>
                  have H := HA.out
                  clear HA
                  simp only [chordmaillaw03_CheckedPicks.j1] at H
                  by_cases c24 : x72_16 = true
                  · subst c24
                    have H1 : (some false) = some r := by rw [if_pos rfl] at H; exact H
                    clear H
                    have H := H1
                    clear H1
                    obtain rfl := Option.some.inj H
                    go_wp2
                    go_ret
                    exact ⟨by first | rfl | (simp [errW_none, errW_some] <;> rfl) | (simp [*, errW_none, errW_some] <;> rfl), by repeat (first | (with_reducible first | exact HB.out | apply below_alloc | apply pw_below_drewN | apply below_drew1) | exact HB.out)⟩
                  · replace c24 := Bool.eq_false_iff.mpr c24
                    subst c24
                    have H1 : (if a0 < 0 then ((checked_Euclid.f (wrap64 (a0 + a1)) a1).bind fun bt125 => (if bt125.2 = 0 then (some (bt125.1 == t121)) else (some false))) else (if a0 ≥ a1 then (some true) else (some (t121 == a0)))) = some r := by rw [if_neg (show ¬ (false = true) by decide)] at H; exact H
                    clear H
                    have H := H1
                    clear H1
                    by_cases c25 : a0 < 0
                    · rw [if_pos c25] at H
                      have c25b0 : decide (a0 < 0) = true := decide_eq_true c25
                      clear c25
                      replace H := Option.bind_eq_some_iff.mp H
                      obtain ⟨⟨t125, t126⟩, A260, H⟩ := H
                      replace H : (if t126 = 0 then (some (t125 == t121)) else (some false)) = some r := H
                      have A26 := Aside0.mk A260
                      clear A260
                      by_cases c27 : t126 = 0
                      · rw [if_pos c27] at H
                        have c27b0 : (t126 == 0) = true := beq_iff_eq.mpr c27
                        have c27b1 : (t126 != 0) = false := bne_eq_false_iff_eq.mpr c27
                        clear c27
                        obtain rfl := Option.some.inj H
                        go_wp2_with (first | ((with_reducible refine gate_callee (f := 9) rfl ?_); refine goesL_ (some 80) rfl rfl Try.func9 (by kernel_rfl) rfl #[.int .i64 (wrap64 (a0 + a1)), .int .i64 a1] rfl (by (try simp only [List.map_toArray, List.map_cons, List.map_nil]); first | done | rfl | (simp only [List.length_drop, List.length_take]; rfl)) ?_; (with_reducible refine (checked_Euclid.calls (wrap64 (a0 + a1)) a1 t125 t126 _ A26.out).mono ?_); rintro e w' ⟨rfl, ⟨nd, rfl⟩⟩; refine ⟨_, rfl, ?_⟩))
                        go_ret
                        exact ⟨by first | rfl | (simp [errW_none, errW_some] <;> rfl) | (simp [*, errW_none, errW_some] <;> rfl), by repeat (first | (with_reducible first | exact HB.out | apply below_alloc | apply pw_below_drewN | apply below_drew1) | exact HB.out)⟩
                      · rw [if_neg c27] at H
                        have c27b0 : (t126 == 0) = false := beq_eq_false_iff_ne.mpr c27
                        have c27b1 : (t126 != 0) = true := bne_iff_ne.mpr c27
                        obtain rfl := Option.some.inj H
                        go_wp2_with (first | ((with_reducible refine gate_callee (f := 9) rfl ?_); refine goesL_ (some 80) rfl rfl Try.func9 (by kernel_rfl) rfl #[.int .i64 (wrap64 (a0 + a1)), .int .i64 a1] rfl (by (try simp only [List.map_toArray, List.map_cons, List.map_nil]); first | done | rfl | (simp only [List.length_drop, List.length_take]; rfl)) ?_; (with_reducible refine (checked_Euclid.calls (wrap64 (a0 + a1)) a1 t125 t126 _ A26.out).mono ?_); rintro e w' ⟨rfl, ⟨nd, rfl⟩⟩; refine ⟨_, rfl, ?_⟩))
                        go_ret
                        exact ⟨by first | rfl | (simp [errW_none, errW_some] <;> rfl) | (simp [*, errW_none, errW_some] <;> rfl), by repeat (first | (with_reducible first | exact HB.out | apply below_alloc | apply pw_below_drewN | apply below_drew1) | exact HB.out)⟩
                    · rw [if_neg c25] at H
                      have c25b0 : decide (a0 < 0) = false := decide_eq_false c25
                      clear c25
                      by_cases c28 : a0 ≥ a1
                      · rw [if_pos c28] at H
                        have c28b0 : decide (a1 ≤ a0) = true := decide_eq_true c28
                        clear c28
                        obtain rfl := Option.some.inj H
                        go_wp2
                        go_ret
                        exact ⟨by first | rfl | (simp [errW_none, errW_some] <;> rfl) | (simp [*, errW_none, errW_some] <;> rfl), by repeat (first | (with_reducible first | exact HB.out | apply below_alloc | apply pw_below_drewN | apply below_drew1) | exact HB.out)⟩
                      · rw [if_neg c28] at H
                        have c28b0 : decide (a1 ≤ a0) = false := decide_eq_false c28
                        clear c28
                        obtain rfl := Option.some.inj H
                        go_wp2
                        go_ret
                        exact ⟨by first | rfl | (simp [errW_none, errW_some] <;> rfl) | (simp [*, errW_none, errW_some] <;> rfl), by repeat (first | (with_reducible first | exact HB.out | apply below_alloc | apply pw_below_drewN | apply below_drew1) | exact HB.out)⟩
            · rw [if_neg c15] at H
              have c15b0 : decide (a0 < 9223372036854775807) = false := decide_eq_false c15
              clear c15
              by_cases c29 : a0 < 0
              · rw [if_pos c29] at H
                have c29b0 : decide (a0 < 0) = true := decide_eq_true c29
                clear c29
                replace H := Option.bind_eq_some_iff.mp H
                obtain ⟨⟨t127, t128⟩, A300, H⟩ := H
                replace H : (if t128 = 0 then (some (t127 == t121)) else (some false)) = some r := H
                have A30 := Aside0.mk A300
                clear A300
                by_cases c31 : t128 = 0
                · rw [if_pos c31] at H
                  have c31b0 : (t128 == 0) = true := beq_iff_eq.mpr c31
                  have c31b1 : (t128 != 0) = false := bne_eq_false_iff_eq.mpr c31
                  clear c31
                  obtain rfl := Option.some.inj H
                  go_wp2_with (first | ((with_reducible refine gate_callee (f := 9) rfl ?_); refine goesL_ (some 80) rfl rfl Try.func9 (by kernel_rfl) rfl #[.int .i64 (wrap64 (a0 + a1)), .int .i64 a1] rfl (by (try simp only [List.map_toArray, List.map_cons, List.map_nil]); first | done | rfl | (simp only [List.length_drop, List.length_take]; rfl)) ?_; (with_reducible refine (checked_Euclid.calls (wrap64 (a0 + a1)) a1 t127 t128 _ A30.out).mono ?_); rintro e w' ⟨rfl, ⟨nd, rfl⟩⟩; refine ⟨_, rfl, ?_⟩))
                  go_ret
                  exact ⟨by first | rfl | (simp [errW_none, errW_some] <;> rfl) | (simp [*, errW_none, errW_some] <;> rfl), by repeat (first | (with_reducible first | exact HB.out | apply below_alloc | apply pw_below_drewN | apply below_drew1) | exact HB.out)⟩
                · rw [if_neg c31] at H
                  have c31b0 : (t128 == 0) = false := beq_eq_false_iff_ne.mpr c31
                  have c31b1 : (t128 != 0) = true := bne_iff_ne.mpr c31
                  obtain rfl := Option.some.inj H
                  go_wp2_with (first | ((with_reducible refine gate_callee (f := 9) rfl ?_); refine goesL_ (some 80) rfl rfl Try.func9 (by kernel_rfl) rfl #[.int .i64 (wrap64 (a0 + a1)), .int .i64 a1] rfl (by (try simp only [List.map_toArray, List.map_cons, List.map_nil]); first | done | rfl | (simp only [List.length_drop, List.length_take]; rfl)) ?_; (with_reducible refine (checked_Euclid.calls (wrap64 (a0 + a1)) a1 t127 t128 _ A30.out).mono ?_); rintro e w' ⟨rfl, ⟨nd, rfl⟩⟩; refine ⟨_, rfl, ?_⟩))
                  go_ret
                  exact ⟨by first | rfl | (simp [errW_none, errW_some] <;> rfl) | (simp [*, errW_none, errW_some] <;> rfl), by repeat (first | (with_reducible first | exact HB.out | apply below_alloc | apply pw_below_drewN | apply below_drew1) | exact HB.out)⟩
              · rw [if_neg c29] at H
                have c29b0 : decide (a0 < 0) = false := decide_eq_false c29
                clear c29
                by_cases c32 : a0 ≥ a1
                · rw [if_pos c32] at H
                  have c32b0 : decide (a1 ≤ a0) = true := decide_eq_true c32
                  clear c32
                  obtain rfl := Option.some.inj H
                  go_wp2
                  go_ret
                  exact ⟨by first | rfl | (simp [errW_none, errW_some] <;> rfl) | (simp [*, errW_none, errW_some] <;> rfl), by repeat (first | (with_reducible first | exact HB.out | apply below_alloc | apply pw_below_drewN | apply below_drew1) | exact HB.out)⟩
                · rw [if_neg c32] at H
                  have c32b0 : decide (a1 ≤ a0) = false := decide_eq_false c32
                  clear c32
                  obtain rfl := Option.some.inj H
                  go_wp2
                  go_ret
                  exact ⟨by first | rfl | (simp [errW_none, errW_some] <;> rfl) | (simp [*, errW_none, errW_some] <;> rfl), by repeat (first | (with_reducible first | exact HB.out | apply below_alloc | apply pw_below_drewN | apply below_drew1) | exact HB.out)⟩
  · replace c4 := Bool.eq_false_iff.mpr c4
    subst c4
    have H1 : (some false) = some r := by rw [if_neg (show ¬ (false = true) by decide)] at H; exact H
    clear H
    have H := H1
    clear H1
    obtain rfl := Option.some.inj H
    go_enter Try.func5, Try.ntmps5
    go_wp2_with (first | ((with_reducible refine gate_callee (f := 23) rfl ?_); refine goesL_ (some 11) rfl rfl Try.func23 (by kernel_rfl) rfl #[] rfl (by (try simp only [List.map_toArray, List.map_cons, List.map_nil]); first | done | rfl | (simp only [List.length_drop, List.length_take]; rfl)) ?_; (with_reducible refine (chordmaillaw03_awake.calls k  false _ A3.out).mono ?_); rintro e w33 ⟨rfl, hb⟩; refine ⟨_, rfl, ?_⟩; have n0_ := Aside0.mk (below_step (by repeat (first | (with_reducible first | exact HB.out | apply below_alloc | apply pw_below_drewN | apply below_drew1) | exact HB.out)) hb); clear HB; have HB := n0_; clear n0_; (try clear hb); (try clear hb2); (try clear hk); (try clear hi)))
    go_ret
    exact ⟨by first | rfl | (simp [errW_none, errW_some] <;> rfl) | (simp [*, errW_none, errW_some] <;> rfl), by repeat (first | (with_reducible first | exact HB.out | apply below_alloc | apply pw_below_drewN | apply below_drew1) | exact HB.out)⟩

/-- THE ONE PURE STATEMENT of chordmaillaw03_CheckedPicks: yours. -/
def chordmaillaw03_CheckedPicks.Pure : Prop := ∀ (a0 : Int) (a1 : Int), (Lit.int .i64 a0).wf = true → (Lit.int .i64 a1).wf = true → ∃ k, chordmaillaw03_CheckedPicks.f k a0 a1 = some true
theorem chordmaillaw03_CheckedPicks.walk (P : chordmaillaw03_CheckedPicks.Pure) (a0 : Int) (a1 : Int) (w : World) (w0 : (Lit.int .i64 a0).wf = true) (w1 : (Lit.int .i64 a1).wf = true) :
    Calls Try.prog 5 #[.int .i64 a0, .int .i64 a1] w fun e w' => e = .returned (.bool true) ∧ Below w.heap.size w w' := by
  obtain ⟨k, h⟩ := P a0 a1 w0 w1
  refine (chordmaillaw03_CheckedPicks.calls k a0 a1 true w h).mono ?_
  rintro e w' ⟨rfl, hd⟩
  exact ⟨rfl, hd⟩

end Go.Proofs.Ytacmheeodhjlbaa.PCheckedPicks
