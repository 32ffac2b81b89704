-- Printed by the kit's print and mended by this session's program: no print of the kit.
import Derived.Test.YtacmheeodhjlbaaPCheckedListsx0
import Derived.Test.YtacmheeodhjlbaaPCheckedListsx1
import Derived.Deep.RegionHeld3
namespace Go.Proofs.Ytacmheeodhjlbaa.PCheckedLists
open Go.RowKit Go.Proofs.YtacmheeodhjlbaaW.PrintWords Go.Proofs.YtacmheeodhjlbaaW.PrintLast Go.Proofs.YtacmheeodhjlbaaW.PrintMore
attribute [local go_sem] max2_int min2_int max_two min_two max_three min_three max_four min_four   -- for this text's walks alone
set_option linter.unusedVariables false
set_option linter.unusedSimpArgs false

/-! ### chordmailref03_apart: function 43 -/
def chordmailref03_apart.l0 : Nat → List Int → List Int → List Int → Int → Int → Option (List Int)
  | 0, _, _, _, _, _ => none
  | k + 1, x0, x1, x5, x6, x7 => if x7 < (x0.length : Int) then (if 0 ≤ x7 then ((chordmailref03_digit.f x1 x7).bind fun t126 => (if (wrap64 ((wrap64 ((rd x0 x7) - t126)) - x6)) < 0 then (if x5.length < 17592186044416 then (chordmailref03_apart.l0 k x0 x1 (x5 ++ [wrap64 ((wrap64 ((wrap64 ((rd x0 x7) - t126)) - x6)) + 10)]) 1 (wrap64 (x7 + 1))) else (none)) else (if x5.length < 17592186044416 then (chordmailref03_apart.l0 k x0 x1 (x5 ++ [wrap64 ((wrap64 ((rd x0 x7) - t126)) - x6)]) 0 (wrap64 (x7 + 1))) else (none)))) else (none)) else ((chordmailref03_cut.f k x5).bind fun t133 => (some t133))
def chordmailref03_apart.f (k : Nat) (l0 : List Int) (l1 : List Int) : Option (List Int) := chordmailref03_apart.l0 k l0 l1 ([] : List Int) 0 0
theorem chordmailref03_apart.mono_l : ∀ k, (∀ y0 y1 y2 y3 y4, LeO (chordmailref03_apart.l0 k y0 y1 y2 y3 y4) (chordmailref03_apart.l0 (k + 1) y0 y1 y2 y3 y4))
  | 0 => fun _ _ _ _ _ r h => by simp [chordmailref03_apart.l0] at h
  | k + 1 => by
    have ih0 := chordmailref03_apart.mono_l k
    · intro y0 y1 y2 y3 y4
      unfold chordmailref03_apart.l0
      repeat' first
      | (with_reducible exact ih0 _ _ _ _ _)
      | (with_reducible exact chordmailref03_cut.mono _ _)
      | (with_reducible exact LeO.refl _)
      | (with_reducible exact LeO.none _)
      | (with_reducible refine LeO.ite ?_ ?_)
      | (with_reducible refine LeO.bind ?_ (fun _ => ?_))
      | exact ih0 _ _ _ _ _
      | exact chordmailref03_cut.mono _ _
      | exact LeO.none _
      | refine LeO.ite ?_ ?_
      | refine LeO.bind ?_ (fun _ => ?_)
theorem chordmailref03_apart.mono : ∀ a0 a1 k, LeO (chordmailref03_apart.f k a0 a1) (chordmailref03_apart.f (k + 1) a0 a1) := by
  intro a0 a1 k
  have ih0 := chordmailref03_apart.mono_l k
  unfold chordmailref03_apart.f
  repeat' first
      | (with_reducible exact ih0 _ _ _ _ _)
      | (with_reducible exact chordmailref03_cut.mono _ _)
      | (with_reducible exact LeO.refl _)
      | (with_reducible exact LeO.none _)
      | (with_reducible refine LeO.ite ?_ ?_)
      | (with_reducible refine LeO.bind ?_ (fun _ => ?_))
      | exact ih0 _ _ _ _ _
      | exact chordmailref03_cut.mono _ _
      | exact LeO.none _
      | refine LeO.ite ?_ ?_
      | refine LeO.bind ?_ (fun _ => ?_)
set_option maxHeartbeats 8000000 in
set_option maxRecDepth 100000 in
theorem chordmailref03_apart.calls (k : Nat) (A0 : Option Addr) (c0 : Nat) (l0 : List Int) (A1 : Option Addr) (c1 : Nat) (l1 : List Int) (r : List Int) (w : World) (hr0 : Kd.C (Kd.int .i64) w A0 l0.length l0) (hc0 : l0.length ≤ c0) (hr1 : Kd.C (Kd.int .i64) w A1 l1.length l1) (hc1 : l1.length ≤ c1) (h : chordmailref03_apart.f k l0 l1 = some r) :
    Calls Try.prog 43 #[.slice A0 l0.length c0, .slice A1 l1.length c1] w fun e w' => ∃ v0_ : Value, e = .returned (v0_) ∧ Kd.V (Kd.int .i64) 3 w' w.heap.size (fun k_ => (w.heap.size ≤ k_)) v0_ r ∧ Below w.heap.size w w' := by
  have HR0 := Aside0.mk hr0
  have HC0 := Aside0.mk hc0
  clear hr0 hc0
  have HR1 := Aside0.mk hr1
  have HC1 := Aside0.mk hc1
  clear hr1 hc1
  have HB := Aside0.mk (Below.refl w.heap.size w)
  have H : (chordmailref03_apart.l0 k l0 l1 ([] : List Int) 0 0) = some r := h
  clear h
  have H' := Aside0.mk H
  clear H
  go_enter Try.func43, Try.ntmps43
  go_wp2
  repeat (go_quiet (fail); try go_wp2)
  go_loopg [5, 6, 7] k (fun kq v5 v6 v7 w' => ∃ (x5_1 : List Int) (x6_1 : Int) (x7_1 : Int), v6 = .int .i64 x6_1 ∧ v7 = .int .i64 x7_1 ∧ Aside0 (chordmailref03_apart.l0 kq l0 l1 x5_1 x6_1 x7_1 = some r) ∧ Aside0 (kq ≤ k) ∧ Aside0 (Kd.R (Kd.int .i64) 3 w' w.heap.size (fun k_ => (w.heap.size ≤ k_)) v5 x5_1) ∧ Aside0 (Below w.heap.size w w'))
  case atStart => exact ⟨(([] : List Int)), (0), (0), (by first | rfl | (simp; done) | (simp [*]; done)), (by first | rfl | (simp; done) | (simp [*]; done)), H', ⟨Nat.le_refl _⟩, ⟨by first | exact Kd.R_nil _ _ _ _ _ | exact Kd.N_nil _ _ _ _ _ | exact Kd.V_nil _ _ _ _ _ | exact Kd.Q_nil _ _ _ _ _ | exact Kd.S_nil _ _ _ _ _⟩, ⟨by repeat (first | (with_reducible first | exact HB.out | apply below_alloc | apply pw_below_drewN | apply below_drew1) | exact HB.out)⟩⟩
  case round =>
    clear H'
    try clear c1
    try clear p2
    obtain ⟨x5_1, x6_1, x7_1, rfl, rfl, HA, HK1, HO_5, HB⟩ := hrel
    cases gk with
    | zero => exact absurd HA.out (by simp [chordmailref03_apart.l0])
    | succ k1 =>
      have H := HA.out
      clear HA
      simp only [chordmailref03_apart.l0] at H
      by_cases c3 : x7_1 < (l0.length : Int)
      · rw [if_pos c3] at H
        have c3b0 : decide (x7_1 < (l0.length : Int)) = true := decide_eq_true c3
        clear c3
        by_cases c4 : 0 ≤ x7_1
        · rw [if_pos c4] at H
          have c4b0 : decide (0 ≤ x7_1) = true := decide_eq_true c4
          clear c4
          replace H := Option.bind_eq_some_iff.mp H
          obtain ⟨t126, A50, H⟩ := H
          replace H : (if (wrap64 ((wrap64 ((rd l0 x7_1) - t126)) - x6_1)) < 0 then (if x5_1.length < 17592186044416 then (chordmailref03_apart.l0 k1 l0 l1 (x5_1 ++ [wrap64 ((wrap64 ((wrap64 ((rd l0 x7_1) - t126)) - x6_1)) + 10)]) 1 (wrap64 (x7_1 + 1))) else (none)) else (if x5_1.length < 17592186044416 then (chordmailref03_apart.l0 k1 l0 l1 (x5_1 ++ [wrap64 ((wrap64 ((rd l0 x7_1) - t126)) - x6_1)]) 0 (wrap64 (x7_1 + 1))) else (none))) = some r := H
          have A5 := Aside0.mk A50
          clear A50
          by_cases c6 : (wrap64 ((wrap64 ((rd l0 x7_1) - t126)) - x6_1)) < 0
          · rw [if_pos c6] at H
            have c6b0 : decide ((wrap64 ((wrap64 ((rd l0 x7_1) - t126)) - x6_1)) < 0) = true := decide_eq_true c6
            clear c6
            by_cases c7 : x5_1.length < 17592186044416
            · rw [if_pos c7] at H
              have LMc7 := Aside0.mk c7
              clear c7
              obtain ⟨y127, hy127⟩ : ∃ y_ : List Int, y_ = (x5_1 ++ [wrap64 ((wrap64 ((wrap64 ((rd l0 x7_1) - t126)) - x6_1)) + 10)]) := ⟨_, rfl⟩
              replace H : (chordmailref03_apart.l0 k1 l0 l1 y127 1 (wrap64 (x7_1 + 1))) = some r := by first | (rw [hy127]; with_reducible exact H) | (have H2_ := (Option.bind_some _ _).symm.trans H; rw [hy127]; with_reducible exact H2_) | (have H2_ := (Option.bind_some _ _).symm.trans H; with_reducible exact H2_) | with_reducible exact H | (rw [hy127]; exact H) | exact H
              have Ny127 := Aside0.mk hy127
              clear hy127
              have H' := Aside0.mk H
              clear H
              have p125 : 0 ≤ (x7_1 : Int) := of_decide_eq_true (by first | (with_reducible assumption) | assumption)
              have q125 : x7_1 < (l0.length : Int) := of_decide_eq_true (by first | (with_reducible assumption) | assumption)
              obtain ⟨ad125, e125, hx125_0⟩ := Kd.at_int HR0.out x7_1 p125 q125
              cases e125
              replace hx125_0 := (HB.out.cell (World.block_lt_of_cell? w _ hx125_0)).trans hx125_0
              replace p125 := eq_true p125
              replace q125 := eq_true q125
              go_wp2_with (first | (go_at_call 44; (with_reducible refine (chordmailref03_digit.calls _ _ l1 x7_1 t126 _ ?side1 ?side2 A5.out).mono ?_); (case side1 => repeat (first | exact (Kd.C_below HR1.out HB.out) | (with_reducible refine Kd.C_alloc ?_ _) | (with_reducible refine Kd.C_drewN ?_ _) | (with_reducible refine Kd.C_drew ?_))); (case side2 => exact HC1.out); rintro e w' ⟨rfl, ⟨nd, rfl⟩⟩; (try first | exact ⟨rfl, _, World.drewN_drewN _ _ _⟩ | exact ⟨rfl, _, Eq.trans (World.drewN_drewN _ _ _) (congrArg (World.drewN _) (Nat.add_assoc _ _ _))⟩)) | ((with_reducible refine gate_builtin (b := .append) (xs := #[.tmp 29, .tmp 31]) rfl ?_); at_builtin; refine Kd.R_append (Kd.int .i64) (w0 := w) w.heap.size rfl (.tmp 29) (.tmp 31) 35 3 (.int .i64 0) 8 rfl Try.underlying35 info3 rfl (by decide) (by omega) u5 x5_1 (wrap64 ((wrap64 ((wrap64 ((rd l0 x7_1) - t126)) - x6_1)) + 10)) [.int .i64 (wrap64 ((wrap64 ((wrap64 ((rd l0 x7_1) - t126)) - x6_1)) + 10))] (fun k_ => (w.heap.size ≤ k_)) (fun _ => False) rfl rfl ?aP (fun _ hk => hk.elim) ?aF ?aO ?aB ?aS ?aL ?_; (case aP => exact rfl); (case aB => exact (by repeat (first | (with_reducible first | exact HB.out | apply below_alloc | apply pw_below_drewN | apply below_drew1) | exact HB.out))); (case aF => exact (fun k_ hk => (Nat.le_trans (below_size (by repeat (first | (with_reducible first | exact HB.out | apply below_alloc | apply pw_below_drewN | apply below_drew1) | exact HB.out))) hk))); (case aO => exact (by (with_reducible repeat (first | apply Kd.R_alloc | apply Kd.R_drewN | apply Kd.R_drew)); exact HO_5.out)); (case aS => exact (below_size (by repeat (first | (with_reducible first | exact HB.out | apply below_alloc | apply pw_below_drewN | apply below_drew1) | exact HB.out)))); (case aL => have := LMc7.out; omega); intro v128 w8 ho hb hg hat; rw [← Ny127.out] at ho; have n0_ := Aside0.mk (hb); have n1_ := Aside0.mk (ho); clear HB; clear HO_5; have HB := n0_; have HO129 := n1_; clear n0_ n1_; clear ho hb hg hat))
              repeat (go_quiet (first | (go_at_call 44; (with_reducible refine (chordmailref03_digit.calls _ _ l1 x7_1 t126 _ ?side1 ?side2 A5.out).mono ?_); (case side1 => repeat (first | exact (Kd.C_below HR1.out HB.out) | (with_reducible refine Kd.C_alloc ?_ _) | (with_reducible refine Kd.C_drewN ?_ _) | (with_reducible refine Kd.C_drew ?_))); (case side2 => exact HC1.out); rintro e w' ⟨rfl, ⟨nd, rfl⟩⟩; (try first | exact ⟨rfl, _, World.drewN_drewN _ _ _⟩ | exact ⟨rfl, _, Eq.trans (World.drewN_drewN _ _ _) (congrArg (World.drewN _) (Nat.add_assoc _ _ _))⟩)) | ((with_reducible refine gate_builtin (b := .append) (xs := #[.tmp 29, .tmp 31]) rfl ?_); at_builtin; refine Kd.R_append (Kd.int .i64) (w0 := w) w.heap.size rfl (.tmp 29) (.tmp 31) 35 3 (.int .i64 0) 8 rfl Try.underlying35 info3 rfl (by decide) (by omega) u5 x5_1 (wrap64 ((wrap64 ((wrap64 ((rd l0 x7_1) - t126)) - x6_1)) + 10)) [.int .i64 (wrap64 ((wrap64 ((wrap64 ((rd l0 x7_1) - t126)) - x6_1)) + 10))] (fun k_ => (w.heap.size ≤ k_)) (fun _ => False) rfl rfl ?aP (fun _ hk => hk.elim) ?aF ?aO ?aB ?aS ?aL ?_; (case aP => exact rfl); (case aB => exact (by repeat (first | (with_reducible first | exact HB.out | apply below_alloc | apply pw_below_drewN | apply below_drew1) | exact HB.out))); (case aF => exact (fun k_ hk => (Nat.le_trans (below_size (by repeat (first | (with_reducible first | exact HB.out | apply below_alloc | apply pw_below_drewN | apply below_drew1) | exact HB.out))) hk))); (case aO => exact (by (with_reducible repeat (first | apply Kd.R_alloc | apply Kd.R_drewN | apply Kd.R_drew)); exact HO_5.out)); (case aS => exact (below_size (by repeat (first | (with_reducible first | exact HB.out | apply below_alloc | apply pw_below_drewN | apply below_drew1) | exact HB.out)))); (case aL => have := LMc7.out; omega); intro v128 w8 ho hb hg hat; rw [← Ny127.out] at ho; have n0_ := Aside0.mk (hb); have n1_ := Aside0.mk (ho); clear HB; clear HO_5; have HB := n0_; have HO129 := n1_; clear n0_ n1_; clear ho hb hg hat)); try go_wp2_with (first | (go_at_call 44; (with_reducible refine (chordmailref03_digit.calls _ _ l1 x7_1 t126 _ ?side1 ?side2 A5.out).mono ?_); (case side1 => repeat (first | exact (Kd.C_below HR1.out HB.out) | (with_reducible refine Kd.C_alloc ?_ _) | (with_reducible refine Kd.C_drewN ?_ _) | (with_reducible refine Kd.C_drew ?_))); (case side2 => exact HC1.out); rintro e w' ⟨rfl, ⟨nd, rfl⟩⟩; (try first | exact ⟨rfl, _, World.drewN_drewN _ _ _⟩ | exact ⟨rfl, _, Eq.trans (World.drewN_drewN _ _ _) (congrArg (World.drewN _) (Nat.add_assoc _ _ _))⟩)) | ((with_reducible refine gate_builtin (b := .append) (xs := #[.tmp 29, .tmp 31]) rfl ?_); at_builtin; refine Kd.R_append (Kd.int .i64) (w0 := w) w.heap.size rfl (.tmp 29) (.tmp 31) 35 3 (.int .i64 0) 8 rfl Try.underlying35 info3 rfl (by decide) (by omega) u5 x5_1 (wrap64 ((wrap64 ((wrap64 ((rd l0 x7_1) - t126)) - x6_1)) + 10)) [.int .i64 (wrap64 ((wrap64 ((wrap64 ((rd l0 x7_1) - t126)) - x6_1)) + 10))] (fun k_ => (w.heap.size ≤ k_)) (fun _ => False) rfl rfl ?aP (fun _ hk => hk.elim) ?aF ?aO ?aB ?aS ?aL ?_; (case aP => exact rfl); (case aB => exact (by repeat (first | (with_reducible first | exact HB.out | apply below_alloc | apply pw_below_drewN | apply below_drew1) | exact HB.out))); (case aF => exact (fun k_ hk => (Nat.le_trans (below_size (by repeat (first | (with_reducible first | exact HB.out | apply below_alloc | apply pw_below_drewN | apply below_drew1) | exact HB.out))) hk))); (case aO => exact (by (with_reducible repeat (first | apply Kd.R_alloc | apply Kd.R_drewN | apply Kd.R_drew)); exact HO_5.out)); (case aS => exact (below_size (by repeat (first | (with_reducible first | exact HB.out | apply below_alloc | apply pw_below_drewN | apply below_drew1) | exact HB.out)))); (case aL => have := LMc7.out; omega); intro v128 w8 ho hb hg hat; rw [← Ny127.out] at ho; have n0_ := Aside0.mk (hb); have n1_ := Aside0.mk (ho); clear HB; clear HO_5; have HB := n0_; have HO129 := n1_; clear n0_ n1_; clear ho hb hg hat)))
              go_roundg k1
              case measure => have := HK1.out; omega
              case rel => exact ⟨(y127), (1), (wrap64 (x7_1 + 1)), (by first | rfl | (simp; done) | (simp [*]; done)), (by first | rfl | (simp; done) | (simp [*]; done)), H', ⟨by have := HK1.out; omega⟩, ⟨by (with_reducible repeat (first | apply Kd.R_alloc | apply Kd.R_drewN | apply Kd.R_drew)); exact HO129.out⟩, ⟨by repeat (first | (with_reducible first | exact HB.out | apply below_alloc | apply pw_below_drewN | apply below_drew1) | exact HB.out)⟩⟩
            · rw [if_neg c7] at H
              exact absurd H (by simp)
          · rw [if_neg c6] at H
            have c6b0 : decide ((wrap64 ((wrap64 ((rd l0 x7_1) - t126)) - x6_1)) < 0) = false := decide_eq_false c6
            clear c6
            by_cases c9 : x5_1.length < 17592186044416
            · rw [if_pos c9] at H
              have LMc9 := Aside0.mk c9
              clear c9
              obtain ⟨y130, hy130⟩ : ∃ y_ : List Int, y_ = (x5_1 ++ [wrap64 ((wrap64 ((rd l0 x7_1) - t126)) - x6_1)]) := ⟨_, rfl⟩
              replace H : (chordmailref03_apart.l0 k1 l0 l1 y130 0 (wrap64 (x7_1 + 1))) = some r := by first | (rw [hy130]; with_reducible exact H) | (have H2_ := (Option.bind_some _ _).symm.trans H; rw [hy130]; with_reducible exact H2_) | (have H2_ := (Option.bind_some _ _).symm.trans H; with_reducible exact H2_) | with_reducible exact H | (rw [hy130]; exact H) | exact H
              have Ny130 := Aside0.mk hy130
              clear hy130
              have H' := Aside0.mk H
              clear H
              have p125 : 0 ≤ (x7_1 : Int) := of_decide_eq_true (by first | (with_reducible assumption) | assumption)
              have q125 : x7_1 < (l0.length : Int) := of_decide_eq_true (by first | (with_reducible assumption) | assumption)
              obtain ⟨ad125, e125, hx125_0⟩ := Kd.at_int HR0.out x7_1 p125 q125
              cases e125
              replace hx125_0 := (HB.out.cell (World.block_lt_of_cell? w _ hx125_0)).trans hx125_0
              replace p125 := eq_true p125
              replace q125 := eq_true q125
              go_wp2_with (first | (go_at_call 44; (with_reducible refine (chordmailref03_digit.calls _ _ l1 x7_1 t126 _ ?side1 ?side2 A5.out).mono ?_); (case side1 => repeat (first | exact (Kd.C_below HR1.out HB.out) | (with_reducible refine Kd.C_alloc ?_ _) | (with_reducible refine Kd.C_drewN ?_ _) | (with_reducible refine Kd.C_drew ?_))); (case side2 => exact HC1.out); rintro e w' ⟨rfl, ⟨nd, rfl⟩⟩; (try first | exact ⟨rfl, _, World.drewN_drewN _ _ _⟩ | exact ⟨rfl, _, Eq.trans (World.drewN_drewN _ _ _) (congrArg (World.drewN _) (Nat.add_assoc _ _ _))⟩)) | ((with_reducible refine gate_builtin (b := .append) (xs := #[.tmp 29, .tmp 31]) rfl ?_); at_builtin; refine Kd.R_append (Kd.int .i64) (w0 := w) w.heap.size rfl (.tmp 29) (.tmp 31) 35 3 (.int .i64 0) 8 rfl Try.underlying35 info3 rfl (by decide) (by omega) u5 x5_1 (wrap64 ((wrap64 ((rd l0 x7_1) - t126)) - x6_1)) [.int .i64 (wrap64 ((wrap64 ((rd l0 x7_1) - t126)) - x6_1))] (fun k_ => (w.heap.size ≤ k_)) (fun _ => False) rfl rfl ?aP (fun _ hk => hk.elim) ?aF ?aO ?aB ?aS ?aL ?_; (case aP => exact rfl); (case aB => exact (by repeat (first | (with_reducible first | exact HB.out | apply below_alloc | apply pw_below_drewN | apply below_drew1) | exact HB.out))); (case aF => exact (fun k_ hk => (Nat.le_trans (below_size (by repeat (first | (with_reducible first | exact HB.out | apply below_alloc | apply pw_below_drewN | apply below_drew1) | exact HB.out))) hk))); (case aO => exact (by (with_reducible repeat (first | apply Kd.R_alloc | apply Kd.R_drewN | apply Kd.R_drew)); exact HO_5.out)); (case aS => exact (below_size (by repeat (first | (with_reducible first | exact HB.out | apply below_alloc | apply pw_below_drewN | apply below_drew1) | exact HB.out)))); (case aL => have := LMc9.out; omega); intro v131 w10 ho hb hg hat; rw [← Ny130.out] at ho; have n0_ := Aside0.mk (hb); have n1_ := Aside0.mk (ho); clear HB; clear HO_5; have HB := n0_; have HO132 := n1_; clear n0_ n1_; clear ho hb hg hat))
              repeat (go_quiet (first | (go_at_call 44; (with_reducible refine (chordmailref03_digit.calls _ _ l1 x7_1 t126 _ ?side1 ?side2 A5.out).mono ?_); (case side1 => repeat (first | exact (Kd.C_below HR1.out HB.out) | (with_reducible refine Kd.C_alloc ?_ _) | (with_reducible refine Kd.C_drewN ?_ _) | (with_reducible refine Kd.C_drew ?_))); (case side2 => exact HC1.out); rintro e w' ⟨rfl, ⟨nd, rfl⟩⟩; (try first | exact ⟨rfl, _, World.drewN_drewN _ _ _⟩ | exact ⟨rfl, _, Eq.trans (World.drewN_drewN _ _ _) (congrArg (World.drewN _) (Nat.add_assoc _ _ _))⟩)) | ((with_reducible refine gate_builtin (b := .append) (xs := #[.tmp 29, .tmp 31]) rfl ?_); at_builtin; refine Kd.R_append (Kd.int .i64) (w0 := w) w.heap.size rfl (.tmp 29) (.tmp 31) 35 3 (.int .i64 0) 8 rfl Try.underlying35 info3 rfl (by decide) (by omega) u5 x5_1 (wrap64 ((wrap64 ((rd l0 x7_1) - t126)) - x6_1)) [.int .i64 (wrap64 ((wrap64 ((rd l0 x7_1) - t126)) - x6_1))] (fun k_ => (w.heap.size ≤ k_)) (fun _ => False) rfl rfl ?aP (fun _ hk => hk.elim) ?aF ?aO ?aB ?aS ?aL ?_; (case aP => exact rfl); (case aB => exact (by repeat (first | (with_reducible first | exact HB.out | apply below_alloc | apply pw_below_drewN | apply below_drew1) | exact HB.out))); (case aF => exact (fun k_ hk => (Nat.le_trans (below_size (by repeat (first | (with_reducible first | exact HB.out | apply below_alloc | apply pw_below_drewN | apply below_drew1) | exact HB.out))) hk))); (case aO => exact (by (with_reducible repeat (first | apply Kd.R_alloc | apply Kd.R_drewN | apply Kd.R_drew)); exact HO_5.out)); (case aS => exact (below_size (by repeat (first | (with_reducible first | exact HB.out | apply below_alloc | apply pw_below_drewN | apply below_drew1) | exact HB.out)))); (case aL => have := LMc9.out; omega); intro v131 w10 ho hb hg hat; rw [← Ny130.out] at ho; have n0_ := Aside0.mk (hb); have n1_ := Aside0.mk (ho); clear HB; clear HO_5; have HB := n0_; have HO132 := n1_; clear n0_ n1_; clear ho hb hg hat)); try go_wp2_with (first | (go_at_call 44; (with_reducible refine (chordmailref03_digit.calls _ _ l1 x7_1 t126 _ ?side1 ?side2 A5.out).mono ?_); (case side1 => repeat (first | exact (Kd.C_below HR1.out HB.out) | (with_reducible refine Kd.C_alloc ?_ _) | (with_reducible refine Kd.C_drewN ?_ _) | (with_reducible refine Kd.C_drew ?_))); (case side2 => exact HC1.out); rintro e w' ⟨rfl, ⟨nd, rfl⟩⟩; (try first | exact ⟨rfl, _, World.drewN_drewN _ _ _⟩ | exact ⟨rfl, _, Eq.trans (World.drewN_drewN _ _ _) (congrArg (World.drewN _) (Nat.add_assoc _ _ _))⟩)) | ((with_reducible refine gate_builtin (b := .append) (xs := #[.tmp 29, .tmp 31]) rfl ?_); at_builtin; refine Kd.R_append (Kd.int .i64) (w0 := w) w.heap.size rfl (.tmp 29) (.tmp 31) 35 3 (.int .i64 0) 8 rfl Try.underlying35 info3 rfl (by decide) (by omega) u5 x5_1 (wrap64 ((wrap64 ((rd l0 x7_1) - t126)) - x6_1)) [.int .i64 (wrap64 ((wrap64 ((rd l0 x7_1) - t126)) - x6_1))] (fun k_ => (w.heap.size ≤ k_)) (fun _ => False) rfl rfl ?aP (fun _ hk => hk.elim) ?aF ?aO ?aB ?aS ?aL ?_; (case aP => exact rfl); (case aB => exact (by repeat (first | (with_reducible first | exact HB.out | apply below_alloc | apply pw_below_drewN | apply below_drew1) | exact HB.out))); (case aF => exact (fun k_ hk => (Nat.le_trans (below_size (by repeat (first | (with_reducible first | exact HB.out | apply below_alloc | apply pw_below_drewN | apply below_drew1) | exact HB.out))) hk))); (case aO => exact (by (with_reducible repeat (first | apply Kd.R_alloc | apply Kd.R_drewN | apply Kd.R_drew)); exact HO_5.out)); (case aS => exact (below_size (by repeat (first | (with_reducible first | exact HB.out | apply below_alloc | apply pw_below_drewN | apply below_drew1) | exact HB.out)))); (case aL => have := LMc9.out; omega); intro v131 w10 ho hb hg hat; rw [← Ny130.out] at ho; have n0_ := Aside0.mk (hb); have n1_ := Aside0.mk (ho); clear HB; clear HO_5; have HB := n0_; have HO132 := n1_; clear n0_ n1_; clear ho hb hg hat)))
              go_roundg k1
              case measure => have := HK1.out; omega
              case rel => exact ⟨(y130), (0), (wrap64 (x7_1 + 1)), (by first | rfl | (simp; done) | (simp [*]; done)), (by first | rfl | (simp; done) | (simp [*]; done)), H', ⟨by have := HK1.out; omega⟩, ⟨by (with_reducible repeat (first | apply Kd.R_alloc | apply Kd.R_drewN | apply Kd.R_drew)); exact HO132.out⟩, ⟨by repeat (first | (with_reducible first | exact HB.out | apply below_alloc | apply pw_below_drewN | apply below_drew1) | exact HB.out)⟩⟩
            · rw [if_neg c9] at H
              exact absurd H (by simp)
        · rw [if_neg c4] at H
          exact absurd H (by simp)
      · rw [if_neg c3] at H
        have c3b0 : decide (x7_1 < (l0.length : Int)) = false := decide_eq_false c3
        clear c3
        replace H := Option.bind_eq_some_iff.mp H
        obtain ⟨t133, A110, H⟩ := H
        replace H : (some t133) = some r := H
        have A11 := Aside0.mk A110
        clear A110
        obtain rfl := Option.some.inj H
        obtain ⟨Ao12, co12, eo12⟩ := Kd.R_slice HO_5.out
        subst eo12
        go_wp2_with (first | (go_at_call 45; (with_reducible refine (chordmailref03_cut.calls k1 (fun k_ => some k_ = (.slice Ao12 x5_1.length co12 : Value).ownBlock) _ _ x5_1 t133 _ ?side1 A11.out).mono ?_); (case side1 => exact Kd.R_V (Kd.R_tight rfl (HO_5.out))); rintro e w13 ⟨v134, rfl, ho0, hb⟩; have n0_ := Aside0.mk (Kd.R_below (by (with_reducible repeat (first | apply Kd.R_alloc | apply Kd.R_drewN | apply Kd.R_drew)); exact HO_5.out) hb); have n1_ := Aside0.mk (Kd.V_lower (Kd.V_mono (ok' := fun k_ => (w.heap.size ≤ k_)) ho0 (fun k_ hk_ => Or.elim hk_ (fun hs_ => ((HO_5.out).1 k_ hs_.symm)) (fun hn_ => (Nat.le_trans (below_size (by repeat (first | (with_reducible first | exact HB.out | apply below_alloc | apply pw_below_drewN | apply below_drew1) | exact HB.out))) hn_)))) (below_size (by repeat (first | (with_reducible first | exact HB.out | apply below_alloc | apply pw_below_drewN | apply below_drew1) | exact HB.out)))); have n2_ := Aside0.mk (below_step (by repeat (first | (with_reducible first | exact HB.out | apply below_alloc | apply pw_below_drewN | apply below_drew1) | exact HB.out)) hb); clear HO_5; clear HB; have HO_5 := n0_; have HO135 := n1_; have HB := n2_; clear n0_ n1_ n2_; (try clear hb); (try clear hb2); (try clear hk); (try clear hi); (try clear ho0)))
        repeat (go_quiet (first | (go_at_call 45; (with_reducible refine (chordmailref03_cut.calls k1 (fun k_ => some k_ = (.slice Ao12 x5_1.length co12 : Value).ownBlock) _ _ x5_1 t133 _ ?side1 A11.out).mono ?_); (case side1 => exact Kd.R_V (Kd.R_tight rfl (HO_5.out))); rintro e w13 ⟨v134, rfl, ho0, hb⟩; have n0_ := Aside0.mk (Kd.R_below (by (with_reducible repeat (first | apply Kd.R_alloc | apply Kd.R_drewN | apply Kd.R_drew)); exact HO_5.out) hb); have n1_ := Aside0.mk (Kd.V_lower (Kd.V_mono (ok' := fun k_ => (w.heap.size ≤ k_)) ho0 (fun k_ hk_ => Or.elim hk_ (fun hs_ => ((HO_5.out).1 k_ hs_.symm)) (fun hn_ => (Nat.le_trans (below_size (by repeat (first | (with_reducible first | exact HB.out | apply below_alloc | apply pw_below_drewN | apply below_drew1) | exact HB.out))) hn_)))) (below_size (by repeat (first | (with_reducible first | exact HB.out | apply below_alloc | apply pw_below_drewN | apply below_drew1) | exact HB.out)))); have n2_ := Aside0.mk (below_step (by repeat (first | (with_reducible first | exact HB.out | apply below_alloc | apply pw_below_drewN | apply below_drew1) | exact HB.out)) hb); clear HO_5; clear HB; have HO_5 := n0_; have HO135 := n1_; have HB := n2_; clear n0_ n1_ n2_; (try clear hb); (try clear hb2); (try clear hk); (try clear hi); (try clear ho0))); try go_wp2_with (first | (go_at_call 45; (with_reducible refine (chordmailref03_cut.calls k1 (fun k_ => some k_ = (.slice Ao12 x5_1.length co12 : Value).ownBlock) _ _ x5_1 t133 _ ?side1 A11.out).mono ?_); (case side1 => exact Kd.R_V (Kd.R_tight rfl (HO_5.out))); rintro e w13 ⟨v134, rfl, ho0, hb⟩; have n0_ := Aside0.mk (Kd.R_below (by (with_reducible repeat (first | apply Kd.R_alloc | apply Kd.R_drewN | apply Kd.R_drew)); exact HO_5.out) hb); have n1_ := Aside0.mk (Kd.V_lower (Kd.V_mono (ok' := fun k_ => (w.heap.size ≤ k_)) ho0 (fun k_ hk_ => Or.elim hk_ (fun hs_ => ((HO_5.out).1 k_ hs_.symm)) (fun hn_ => (Nat.le_trans (below_size (by repeat (first | (with_reducible first | exact HB.out | apply below_alloc | apply pw_below_drewN | apply below_drew1) | exact HB.out))) hn_)))) (below_size (by repeat (first | (with_reducible first | exact HB.out | apply below_alloc | apply pw_below_drewN | apply below_drew1) | exact HB.out)))); have n2_ := Aside0.mk (below_step (by repeat (first | (with_reducible first | exact HB.out | apply below_alloc | apply pw_below_drewN | apply below_drew1) | exact HB.out)) hb); clear HO_5; clear HB; have HO_5 := n0_; have HO135 := n1_; have HB := n2_; clear n0_ n1_ n2_; (try clear hb); (try clear hb2); (try clear hk); (try clear hi); (try clear ho0))))
        go_ret
        exact ⟨_, by first | rfl | (simp [errW_none, errW_some] <;> rfl) | (simp [*, errW_none, errW_some] <;> rfl), by (with_reducible repeat (first | apply Kd.V_alloc | apply Kd.V_drewN | apply Kd.V_drew)); exact HO135.out, by repeat (first | (with_reducible first | exact HB.out | apply below_alloc | apply pw_below_drewN | apply below_drew1) | exact HB.out)⟩

/-! ### chordmailref03_Num_Add: function 31 (this session's own walk) -/
theorem far_cell {w : World} {a p : Addr} {u v : Value} (h : w.cell? a = some v) (hne : a.block ≠ p.block) : (w.setCell p u).cell? a = some v := by
  rw [World.cell?_of_block (w := w) (heap_setCell_other w p a.block u hne)]; exact h
set_option maxHeartbeats 8000000 in
set_option maxRecDepth 100000 in
theorem na_same (k : Nat) (a : Bool) (A0_1 : Option Addr) (c0_1 : Nat) (l0_1 : List Int) (A1_1 : Option Addr) (c1_1 : Nat) (l1_1 : List Int) (r : List Int) (w : World) (hr0_1 : Kd.C (Kd.int .i64) w A0_1 l0_1.length l0_1) (hc0_1 : l0_1.length ≤ c0_1) (hr1_1 : Kd.C (Kd.int .i64) w A1_1 l1_1.length l1_1) (hc1_1 : l1_1.length ≤ c1_1) (h : chordmailref03_together.f k l0_1 l1_1 = some r) :
    Calls Try.prog 31 #[.agg #[.bool a, .slice A0_1 l0_1.length c0_1], .agg #[.bool a, .slice A1_1 l1_1.length c1_1]] w fun e w' => ∃ v1_ : Value, e = .returned (.agg #[.bool a, v1_]) ∧ Kd.V (Kd.int .i64) 3 w' w.heap.size (fun k_ => (w.heap.size ≤ k_)) v1_ r ∧ Below w.heap.size w w' := by
  have HR0 := Aside0.mk hr0_1
  have HR1 := Aside0.mk hr1_1
  have HC0 := Aside0.mk hc0_1
  have HC1 := Aside0.mk hc1_1
  have H := Aside0.mk h
  clear hr0_1 hr1_1 hc0_1 hc1_1 h
  go_enter Try.func31, Try.ntmps31
  go_wp2_with fail
  have hB1 : Below w.heap.size w (((w.alloc (.cells #[.bool a, .slice A0_1 l0_1.length c0_1] 39)).alloc (.cells #[.bool a, .slice A1_1 l1_1.length c1_1] 39)).alloc (.cells #[.bool false, .slice none 0 0] 39)) := (((Below.refl _ w).alloc (Nat.le_refl _) _).alloc (by simp) _).alloc (by simp; omega) _
  have b0 : (((w.alloc (.cells #[.bool a, .slice A0_1 l0_1.length c0_1] 39)).alloc (.cells #[.bool a, .slice A1_1 l1_1.length c1_1] 39)).alloc (.cells #[.bool false, .slice none 0 0] 39)).heap[w.heap.size]? = some (.cells #[.bool a, .slice A0_1 l0_1.length c0_1] 39) := by
    rw [heap_alloc_old _ _ (by simp; omega), heap_alloc_old _ _ (by simp)]; exact heap_alloc_new _ _
  have b1 : (((w.alloc (.cells #[.bool a, .slice A0_1 l0_1.length c0_1] 39)).alloc (.cells #[.bool a, .slice A1_1 l1_1.length c1_1] 39)).alloc (.cells #[.bool false, .slice none 0 0] 39)).heap[w.heap.size + 1]? = some (.cells #[.bool a, .slice A1_1 l1_1.length c1_1] 39) := by
    rw [heap_alloc_old _ _ (by simp)]; exact heap_alloc2_new _ _ _
  have b2 : (((w.alloc (.cells #[.bool a, .slice A0_1 l0_1.length c0_1] 39)).alloc (.cells #[.bool a, .slice A1_1 l1_1.length c1_1] 39)).alloc (.cells #[.bool false, .slice none 0 0] 39)).heap[w.heap.size + 1 + 1]? = some (.cells #[.bool false, .slice none 0 0] 39) := by
    have := heap_alloc_new ((w.alloc (.cells #[.bool a, .slice A0_1 l0_1.length c0_1] 39)).alloc (.cells #[.bool a, .slice A1_1 l1_1.length c1_1] 39)) (.cells #[.bool false, .slice none 0 0] 39)
    simpa using this
  have hs : (((w.alloc (.cells #[.bool a, .slice A0_1 l0_1.length c0_1] 39)).alloc (.cells #[.bool a, .slice A1_1 l1_1.length c1_1] 39)).alloc (.cells #[.bool false, .slice none 0 0] 39)).heap.size = w.heap.size + 3 := by simp
  generalize ((w.alloc (.cells #[.bool a, .slice A0_1 l0_1.length c0_1] 39)).alloc (.cells #[.bool a, .slice A1_1 l1_1.length c1_1] 39)).alloc (.cells #[.bool false, .slice none 0 0] 39) = W1 at *
  have c00 : W1.cell? ⟨w.heap.size, 0, none⟩ = some (.bool a) := by rw [cell_of_row _ _ _ _ _ _ b0]; rfl
  have c01 : W1.cell? ⟨w.heap.size, 1, none⟩ = some (.slice A0_1 l0_1.length c0_1) := by rw [cell_of_row _ _ _ _ _ _ b0]; rfl
  have c11 : W1.cell? ⟨w.heap.size + 1, 1, none⟩ = some (.slice A1_1 l1_1.length c1_1) := by rw [cell_of_row _ _ _ _ _ _ b1]; rfl
  replace b0 := Aside0.mk b0
  replace b1 := Aside0.mk b1
  replace b2 := Aside0.mk b2
  replace hs := Aside0.mk hs
  go_region_held3 (fun w' => w'.cell? ⟨w.heap.size, 0, none⟩ = some (.bool a) ∧ w'.cell? ⟨w.heap.size, 1, none⟩ = some (.slice A0_1 l0_1.length c0_1) ∧ w'.cell? ⟨w.heap.size + 1, 1, none⟩ = some (.slice A1_1 l1_1.length c1_1)) (first | exact And.intro c00 (And.intro c01 c11) | exact And.intro d00 (And.intro d01 d11) | exact And.intro (far_cell (far_cell d00 (by simp; omega)) (by simp; omega)) (And.intro (far_cell (far_cell d01 (by simp; omega)) (by simp; omega)) (far_cell (far_cell d11 (by simp)) (by simp)))) (first | (go_at_call 41; refine (chordmailref03_together.calls k _ _ l0_1 _ _ l1_1 r _ ?s1 HC0.out ?s2 HC1.out H.out).mono ?_; (case s1 => exact Kd.C_below HR0.out (Below.drew hB1)); (case s2 => exact Kd.C_below HR1.out (Below.drew hB1)); rintro e W2 ⟨v0, rfl, hR, hB2⟩; (obtain ⟨Ao, co, rfl⟩ := Kd.R_slice hR); (have d00 := (hB2.cell (p := ⟨w.heap.size, 0, none⟩) (by have := hs.out; simp; omega)).trans c00); (have d01 := (hB2.cell (p := ⟨w.heap.size, 1, none⟩) (by have := hs.out; simp; omega)).trans c01); (have d11 := (hB2.cell (p := ⟨w.heap.size + 1, 1, none⟩) (by have := hs.out; simp; omega)).trans c11); (have d2 := (hB2.block (w.heap.size + 1 + 1) (by have := hs.out; simp; omega)).trans b2.out); (have e20 := cell_of_row _ _ 0 _ _ _ d2); (have e21 := cell_of_row _ _ 1 _ _ _ d2); (have f20 := frozen_of_row _ _ 0 _ _ d2); (have f21 := frozen_of_row _ _ 1 _ _ d2); (simp only [List.getElem?_toArray, List.getElem?_cons_zero, List.getElem?_cons_succ] at e20 e21); (replace d2 := Aside0.mk d2)))
  go_wp2
  refine bodyPost_ret (v := .agg #[.bool a, .slice Ao r.length co]) (results_cell_row (fn := Try.f31) rfl _ _ (w.heap.size + 1 + 1) 39 _ (0, 0) _ rfl (heap_setCell_same _ _ _ _ _ _ (heap_setCell_same _ _ _ _ _ _ d2.out)) Try.underlying39 rfl (by kernel_rfl)) rfl ?_
  refine ⟨_, rfl, ?_, ?_⟩
  · have hok : Kd.V (Kd.int .i64) 3 W2 w.heap.size (fun k_ => w.heap.size ≤ k_ ∧ k_ ≠ w.heap.size + 1 + 1) (.slice Ao r.length co) r := Kd.R_V (Kd.R_mono (Kd.R_bound hR) (fun k_ hk => by have h1 := hk.2.1; have h2 := hs.out; simp at h1; omega))
    exact Kd.V_mono (Kd.V_far (p := ⟨w.heap.size + 1 + 1, 1, none⟩) (Kd.V_far (p := ⟨w.heap.size + 1 + 1, 0, none⟩) hok (fun _ hk => hk.2) _) (fun _ hk => hk.2) _) (fun _ hk => hk.1)
  · exact ((hB1.drew.trans (hB2.mono (by have := hs.out; simp; omega))).setCell (by simp; omega) _).setCell (by simp; omega) _
set_option maxHeartbeats 8000000 in
set_option maxRecDepth 100000 in
theorem na_less (k : Nat) (a b : Bool) (hab : (a == b) = false) (A0_1 : Option Addr) (c0_1 : Nat) (l0_1 : List Int) (A1_1 : Option Addr) (c1_1 : Nat) (l1_1 : List Int) (r : List Int) (w : World) (hr0_1 : Kd.C (Kd.int .i64) w A0_1 l0_1.length l0_1) (hc0_1 : l0_1.length ≤ c0_1) (hr1_1 : Kd.C (Kd.int .i64) w A1_1 l1_1.length l1_1) (hc1_1 : l1_1.length ≤ c1_1) (hl : chordmailref03_less.f k l0_1 l1_1 = some true) (h : chordmailref03_apart.f k l1_1 l0_1 = some r) :
    Calls Try.prog 31 #[.agg #[.bool a, .slice A0_1 l0_1.length c0_1], .agg #[.bool b, .slice A1_1 l1_1.length c1_1]] w fun e w' => ∃ v1_ : Value, e = .returned (.agg #[.bool b, v1_]) ∧ Kd.V (Kd.int .i64) 3 w' w.heap.size (fun k_ => (w.heap.size ≤ k_)) v1_ r ∧ Below w.heap.size w w' := by
  have HR0 := Aside0.mk hr0_1
  have HR1 := Aside0.mk hr1_1
  have HC0 := Aside0.mk hc0_1
  have HC1 := Aside0.mk hc1_1
  have H := Aside0.mk h
  have HL := Aside0.mk hl
  clear hr0_1 hr1_1 hc0_1 hc1_1 h hl
  go_enter Try.func31, Try.ntmps31
  go_wp2_with fail
  have hB1 : Below w.heap.size w (((w.alloc (.cells #[.bool a, .slice A0_1 l0_1.length c0_1] 39)).alloc (.cells #[.bool b, .slice A1_1 l1_1.length c1_1] 39)).alloc (.cells #[.bool false, .slice none 0 0] 39)) := (((Below.refl _ w).alloc (Nat.le_refl _) _).alloc (by simp) _).alloc (by simp; omega) _
  have b0 : (((w.alloc (.cells #[.bool a, .slice A0_1 l0_1.length c0_1] 39)).alloc (.cells #[.bool b, .slice A1_1 l1_1.length c1_1] 39)).alloc (.cells #[.bool false, .slice none 0 0] 39)).heap[w.heap.size]? = some (.cells #[.bool a, .slice A0_1 l0_1.length c0_1] 39) := by
    rw [heap_alloc_old _ _ (by simp; omega), heap_alloc_old _ _ (by simp)]; exact heap_alloc_new _ _
  have b1 : (((w.alloc (.cells #[.bool a, .slice A0_1 l0_1.length c0_1] 39)).alloc (.cells #[.bool b, .slice A1_1 l1_1.length c1_1] 39)).alloc (.cells #[.bool false, .slice none 0 0] 39)).heap[w.heap.size + 1]? = some (.cells #[.bool b, .slice A1_1 l1_1.length c1_1] 39) := by
    rw [heap_alloc_old _ _ (by simp)]; exact heap_alloc2_new _ _ _
  have b2 : (((w.alloc (.cells #[.bool a, .slice A0_1 l0_1.length c0_1] 39)).alloc (.cells #[.bool b, .slice A1_1 l1_1.length c1_1] 39)).alloc (.cells #[.bool false, .slice none 0 0] 39)).heap[w.heap.size + 1 + 1]? = some (.cells #[.bool false, .slice none 0 0] 39) := by
    have := heap_alloc_new ((w.alloc (.cells #[.bool a, .slice A0_1 l0_1.length c0_1] 39)).alloc (.cells #[.bool b, .slice A1_1 l1_1.length c1_1] 39)) (.cells #[.bool false, .slice none 0 0] 39)
    simpa using this
  have hs : (((w.alloc (.cells #[.bool a, .slice A0_1 l0_1.length c0_1] 39)).alloc (.cells #[.bool b, .slice A1_1 l1_1.length c1_1] 39)).alloc (.cells #[.bool false, .slice none 0 0] 39)).heap.size = w.heap.size + 3 := by simp
  refine (chordmailref03_less.calls k _ _ l0_1 _ _ l1_1 true _ ?s1 HC0.out ?s2 HC1.out HL.out).mono ?_
  case s1 => exact Kd.C_below HR0.out hB1
  case s2 => exact Kd.C_below HR1.out hB1
  rintro e w2 ⟨rfl, ⟨n, rfl⟩⟩
  generalize (((w.alloc (.cells #[.bool a, .slice A0_1 l0_1.length c0_1] 39)).alloc (.cells #[.bool b, .slice A1_1 l1_1.length c1_1] 39)).alloc (.cells #[.bool false, .slice none 0 0] 39)) = W1 at *
  have hB2 : Below w.heap.size w (W1.drewN n) := pw_below_drewN hB1 n
  have c00 : (W1.drewN n).cell? ⟨w.heap.size, 0, none⟩ = some (.bool a) := by show W1.cell? _ = _; rw [cell_of_row _ _ _ _ _ _ b0]; rfl
  have c10 : (W1.drewN n).cell? ⟨w.heap.size + 1, 0, none⟩ = some (.bool b) := by show W1.cell? _ = _; rw [cell_of_row _ _ _ _ _ _ b1]; rfl
  have c11 : (W1.drewN n).cell? ⟨w.heap.size + 1, 1, none⟩ = some (.slice A1_1 l1_1.length c1_1) := by show W1.cell? _ = _; rw [cell_of_row _ _ _ _ _ _ b1]; rfl
  have c01 : (W1.drewN n).cell? ⟨w.heap.size, 1, none⟩ = some (.slice A0_1 l0_1.length c0_1) := by show W1.cell? _ = _; rw [cell_of_row _ _ _ _ _ _ b0]; rfl
  replace b2 : (W1.drewN n).heap[w.heap.size + 1 + 1]? = some (.cells #[.bool false, .slice none 0 0] 39) := b2
  replace hs : (W1.drewN n).heap.size = w.heap.size + 3 := hs
  clear b0 b1 hB1
  generalize W1.drewN n = W1' at *
  replace b2 := Aside0.mk b2
  replace hs := Aside0.mk hs
  replace hB2 := Aside0.mk hB2
  go_wp2_with fail
  go_region_held3 (fun w' => w'.cell? ⟨w.heap.size, 0, none⟩ = some (.bool a) ∧ w'.cell? ⟨w.heap.size + 1, 0, none⟩ = some (.bool b) ∧ w'.cell? ⟨w.heap.size, 1, none⟩ = some (.slice A0_1 l0_1.length c0_1) ∧ w'.cell? ⟨w.heap.size + 1, 1, none⟩ = some (.slice A1_1 l1_1.length c1_1)) (first | exact ⟨c00, c10, c01, c11⟩ | exact ⟨d00, d10, d01, d11⟩ | exact ⟨far_cell (far_cell d00 (by simp; omega)) (by simp; omega), far_cell (far_cell d10 (by simp)) (by simp), far_cell (far_cell d01 (by simp; omega)) (by simp; omega), far_cell (far_cell d11 (by simp)) (by simp)⟩) (first | (go_at_call 43; refine (chordmailref03_apart.calls k _ _ l1_1 _ _ l0_1 r _ ?s1 HC1.out ?s2 HC0.out H.out).mono ?_; (case s1 => exact Kd.C_below HR1.out (Below.drew hB2.out)); (case s2 => exact Kd.C_below HR0.out (Below.drew hB2.out)); rintro e W2 ⟨v0, rfl, hV, hB3⟩; (obtain ⟨Ao, co, rfl⟩ := Kd.V_slice hV); (have d00 := (hB3.cell (p := ⟨w.heap.size, 0, none⟩) (by have := hs.out; simp; omega)).trans c00); (have d10 := (hB3.cell (p := ⟨w.heap.size + 1, 0, none⟩) (by have := hs.out; simp; omega)).trans c10); (have d01 := (hB3.cell (p := ⟨w.heap.size, 1, none⟩) (by have := hs.out; simp; omega)).trans c01); (have d11 := (hB3.cell (p := ⟨w.heap.size + 1, 1, none⟩) (by have := hs.out; simp; omega)).trans c11); (have d2 := (hB3.block (w.heap.size + 1 + 1) (by have := hs.out; simp; omega)).trans b2.out); (have e20 := cell_of_row _ _ 0 _ _ _ d2); (have e21 := cell_of_row _ _ 1 _ _ _ d2); (have f20 := frozen_of_row _ _ 0 _ _ d2); (have f21 := frozen_of_row _ _ 1 _ _ d2); (simp only [List.getElem?_toArray, List.getElem?_cons_zero, List.getElem?_cons_succ] at e20 e21); (replace d2 := Aside0.mk d2)))
  go_wp2
  refine bodyPost_ret (v := .agg #[.bool b, .slice Ao r.length co]) (results_cell_row (fn := Try.f31) rfl _ _ (w.heap.size + 1 + 1) 39 _ (0, 0) _ rfl (heap_setCell_same _ _ _ _ _ _ (heap_setCell_same _ _ _ _ _ _ d2.out)) Try.underlying39 rfl (by kernel_rfl)) rfl ?_
  refine ⟨_, rfl, ?_, ?_⟩
  · have hok : Kd.V (Kd.int .i64) 3 W2 w.heap.size (fun k_ => w.heap.size ≤ k_ ∧ k_ ≠ w.heap.size + 1 + 1) (.slice Ao r.length co) r := Kd.V_map hV (fun _ hf => Kd.F_mono hf (fun k_ hk => by have h2 := hs.out; have h3 : W1'.heap.size ≤ k_ := hk; omega))
    exact Kd.V_mono (Kd.V_far (p := ⟨w.heap.size + 1 + 1, 1, none⟩) (Kd.V_far (p := ⟨w.heap.size + 1 + 1, 0, none⟩) hok (fun _ hk => hk.2) _) (fun _ hk => hk.2) _) (fun _ hk => hk.1)
  · exact ((hB2.out.drew.trans (hB3.mono (by have := hs.out; simp; omega))).setCell (by simp; omega) _).setCell (by simp; omega) _
set_option maxHeartbeats 8000000 in
set_option maxRecDepth 100000 in
theorem na_more (k : Nat) (a b : Bool) (hab : (a == b) = false) (A0_1 : Option Addr) (c0_1 : Nat) (l0_1 : List Int) (A1_1 : Option Addr) (c1_1 : Nat) (l1_1 : List Int) (r : List Int) (w : World) (hr0_1 : Kd.C (Kd.int .i64) w A0_1 l0_1.length l0_1) (hc0_1 : l0_1.length ≤ c0_1) (hr1_1 : Kd.C (Kd.int .i64) w A1_1 l1_1.length l1_1) (hc1_1 : l1_1.length ≤ c1_1) (hl : chordmailref03_less.f k l0_1 l1_1 = some false) (h : chordmailref03_apart.f k l0_1 l1_1 = some r) :
    Calls Try.prog 31 #[.agg #[.bool a, .slice A0_1 l0_1.length c0_1], .agg #[.bool b, .slice A1_1 l1_1.length c1_1]] w fun e w' => ∃ v1_ : Value, e = .returned (.agg #[.bool (a && decide (0 < r.length)), v1_]) ∧ Kd.V (Kd.int .i64) 3 w' w.heap.size (fun k_ => (w.heap.size ≤ k_)) v1_ r ∧ Below w.heap.size w w' := by
  have HR0 := Aside0.mk hr0_1
  have HR1 := Aside0.mk hr1_1
  have HC0 := Aside0.mk hc0_1
  have HC1 := Aside0.mk hc1_1
  have H := Aside0.mk h
  have HL := Aside0.mk hl
  clear hr0_1 hr1_1 hc0_1 hc1_1 h hl
  go_enter Try.func31, Try.ntmps31
  go_wp2_with fail
  have hB1 : Below w.heap.size w (((w.alloc (.cells #[.bool a, .slice A0_1 l0_1.length c0_1] 39)).alloc (.cells #[.bool b, .slice A1_1 l1_1.length c1_1] 39)).alloc (.cells #[.bool false, .slice none 0 0] 39)) := (((Below.refl _ w).alloc (Nat.le_refl _) _).alloc (by simp) _).alloc (by simp; omega) _
  have b0 : (((w.alloc (.cells #[.bool a, .slice A0_1 l0_1.length c0_1] 39)).alloc (.cells #[.bool b, .slice A1_1 l1_1.length c1_1] 39)).alloc (.cells #[.bool false, .slice none 0 0] 39)).heap[w.heap.size]? = some (.cells #[.bool a, .slice A0_1 l0_1.length c0_1] 39) := by
    rw [heap_alloc_old _ _ (by simp; omega), heap_alloc_old _ _ (by simp)]; exact heap_alloc_new _ _
  have b1 : (((w.alloc (.cells #[.bool a, .slice A0_1 l0_1.length c0_1] 39)).alloc (.cells #[.bool b, .slice A1_1 l1_1.length c1_1] 39)).alloc (.cells #[.bool false, .slice none 0 0] 39)).heap[w.heap.size + 1]? = some (.cells #[.bool b, .slice A1_1 l1_1.length c1_1] 39) := by
    rw [heap_alloc_old _ _ (by simp)]; exact heap_alloc2_new _ _ _
  have b2 : (((w.alloc (.cells #[.bool a, .slice A0_1 l0_1.length c0_1] 39)).alloc (.cells #[.bool b, .slice A1_1 l1_1.length c1_1] 39)).alloc (.cells #[.bool false, .slice none 0 0] 39)).heap[w.heap.size + 1 + 1]? = some (.cells #[.bool false, .slice none 0 0] 39) := by
    have := heap_alloc_new ((w.alloc (.cells #[.bool a, .slice A0_1 l0_1.length c0_1] 39)).alloc (.cells #[.bool b, .slice A1_1 l1_1.length c1_1] 39)) (.cells #[.bool false, .slice none 0 0] 39)
    simpa using this
  have hs : (((w.alloc (.cells #[.bool a, .slice A0_1 l0_1.length c0_1] 39)).alloc (.cells #[.bool b, .slice A1_1 l1_1.length c1_1] 39)).alloc (.cells #[.bool false, .slice none 0 0] 39)).heap.size = w.heap.size + 3 := by simp
  refine (chordmailref03_less.calls k _ _ l0_1 _ _ l1_1 false _ ?s1 HC0.out ?s2 HC1.out HL.out).mono ?_
  case s1 => exact Kd.C_below HR0.out hB1
  case s2 => exact Kd.C_below HR1.out hB1
  rintro e w2 ⟨rfl, ⟨n, rfl⟩⟩
  generalize (((w.alloc (.cells #[.bool a, .slice A0_1 l0_1.length c0_1] 39)).alloc (.cells #[.bool b, .slice A1_1 l1_1.length c1_1] 39)).alloc (.cells #[.bool false, .slice none 0 0] 39)) = W1 at *
  have hB2 : Below w.heap.size w (W1.drewN n) := pw_below_drewN hB1 n
  have c00 : (W1.drewN n).cell? ⟨w.heap.size, 0, none⟩ = some (.bool a) := by show W1.cell? _ = _; rw [cell_of_row _ _ _ _ _ _ b0]; rfl
  have c10 : (W1.drewN n).cell? ⟨w.heap.size + 1, 0, none⟩ = some (.bool b) := by show W1.cell? _ = _; rw [cell_of_row _ _ _ _ _ _ b1]; rfl
  have c11 : (W1.drewN n).cell? ⟨w.heap.size + 1, 1, none⟩ = some (.slice A1_1 l1_1.length c1_1) := by show W1.cell? _ = _; rw [cell_of_row _ _ _ _ _ _ b1]; rfl
  have c01 : (W1.drewN n).cell? ⟨w.heap.size, 1, none⟩ = some (.slice A0_1 l0_1.length c0_1) := by show W1.cell? _ = _; rw [cell_of_row _ _ _ _ _ _ b0]; rfl
  replace b2 : (W1.drewN n).heap[w.heap.size + 1 + 1]? = some (.cells #[.bool false, .slice none 0 0] 39) := b2
  replace hs : (W1.drewN n).heap.size = w.heap.size + 3 := hs
  clear b0 b1 hB1
  generalize W1.drewN n = W1' at *
  replace b2 := Aside0.mk b2
  replace hs := Aside0.mk hs
  replace hB2 := Aside0.mk hB2
  go_wp2_with fail
  refine (chordmailref03_apart.calls k _ _ l0_1 _ _ l1_1 r _ ?s1 HC0.out ?s2 HC1.out H.out).mono ?_
  case s1 => exact Kd.C_below HR0.out hB2.out
  case s2 => exact Kd.C_below HR1.out hB2.out
  rintro e W2 ⟨v0, rfl, hV, hB3⟩
  obtain ⟨Ao, co, rfl⟩ := Kd.V_slice hV
  (have d00 := (hB3.cell (p := ⟨w.heap.size, 0, none⟩) (by have := hs.out; simp; omega)).trans c00)
  (have d10 := (hB3.cell (p := ⟨w.heap.size + 1, 0, none⟩) (by have := hs.out; simp; omega)).trans c10)
  (have d01 := (hB3.cell (p := ⟨w.heap.size, 1, none⟩) (by have := hs.out; simp; omega)).trans c01)
  (have d11 := (hB3.cell (p := ⟨w.heap.size + 1, 1, none⟩) (by have := hs.out; simp; omega)).trans c11)
  have d2 := (hB3.block (w.heap.size + 1 + 1) (by have := hs.out; simp; omega)).trans b2.out
  have e20 := cell_of_row _ _ 0 _ _ _ d2
  have e21 := cell_of_row _ _ 1 _ _ _ d2
  have f20 := frozen_of_row _ _ 0 _ _ d2
  have f21 := frozen_of_row _ _ 1 _ _ d2
  simp only [List.getElem?_toArray, List.getElem?_cons_zero, List.getElem?_cons_succ] at e20 e21
  replace d2 := Aside0.mk d2
  have hok : Kd.V (Kd.int .i64) 3 W2 w.heap.size (fun k_ => w.heap.size ≤ k_ ∧ k_ ≠ w.heap.size + 1 + 1) (.slice Ao r.length co) r := Kd.V_map hV (fun _ hf => Kd.F_mono hf (fun k_ hk => by have h2 := hs.out; have h3 : W1'.heap.size ≤ k_ := hk; omega))
  have hB4 : Below w.heap.size w W2 := hB2.out.trans (hB3.mono (by have := hs.out; omega))
  replace hok := Aside0.mk hok
  replace hB4 := Aside0.mk hB4
  clear hV hB3 hB2
  cases a
  · go_wp2_with fail
    refine bodyPost_ret (v := .agg #[.bool false, .slice Ao r.length co]) (results_cell_row (fn := Try.f31) rfl _ _ (w.heap.size + 1 + 1) 39 _ (0, 0) _ rfl (heap_setCell_same _ _ _ _ _ _ (heap_setCell_same _ _ _ _ _ _ d2.out)) Try.underlying39 rfl (by kernel_rfl)) rfl ?_
    refine ⟨_, by rfl, ?_, ?_⟩
    · exact Kd.V_mono (Kd.V_far (p := ⟨w.heap.size + 1 + 1, 1, none⟩) (Kd.V_far (p := ⟨w.heap.size + 1 + 1, 0, none⟩) hok.out (fun _ hk => hk.2) _) (fun _ hk => hk.2) _) (fun _ hk => hk.1)
    · exact (hB4.out.setCell (by simp; omega) _).setCell (by simp; omega) _
  · go_wp2_with fail
    refine bodyPost_ret (v := .agg #[.bool (decide (0 < r.length)), .slice Ao r.length co]) (results_cell_row (fn := Try.f31) rfl _ _ (w.heap.size + 1 + 1) 39 _ (0, 0) _ rfl (heap_setCell_same _ _ _ _ _ _ (heap_setCell_same _ _ _ _ _ _ d2.out)) Try.underlying39 rfl (by kernel_rfl)) rfl ?_
    refine ⟨_, by rw [Bool.true_and], ?_, ?_⟩
    · exact Kd.V_mono (Kd.V_far (p := ⟨w.heap.size + 1 + 1, 1, none⟩) (Kd.V_far (p := ⟨w.heap.size + 1 + 1, 0, none⟩) hok.out (fun _ hk => hk.2) _) (fun _ hk => hk.2) _) (fun _ hk => hk.1)
    · exact (hB4.out.setCell (by simp; omega) _).setCell (by simp; omega) _
def chordmailref03_Num_Add.f (k : Nat) (a0_0 : Bool) (l0_1 : List Int) (a1_0 : Bool) (l1_1 : List Int) : Option (Bool × List Int) := if (a0_0 == a1_0) = true then ((chordmailref03_together.f k l0_1 l1_1).bind fun t139 => (some (a0_0, t139))) else ((chordmailref03_less.f k l0_1 l1_1).bind fun t142 => (if t142 = true then ((chordmailref03_apart.f k l1_1 l0_1).bind fun t143 => (some (a1_0, t143))) else ((chordmailref03_apart.f k l0_1 l1_1).bind fun t146 => (if a0_0 = true then (some (decide ((t146.length : Int) > 0), t146)) else (some (false, t146))))))
theorem chordmailref03_Num_Add.mono : ∀ a0 a1 a2 a3 k, LeO (chordmailref03_Num_Add.f k a0 a1 a2 a3) (chordmailref03_Num_Add.f (k + 1) a0 a1 a2 a3) := by
  intro a0 a1 a2 a3 k
  unfold chordmailref03_Num_Add.f
  repeat' first
      | (with_reducible exact chordmailref03_apart.mono _ _ _)
      | (with_reducible exact chordmailref03_less.mono _ _ _)
      | (with_reducible exact chordmailref03_together.mono _ _ _)
      | (with_reducible exact LeO.refl _)
      | (with_reducible exact LeO.none _)
      | (with_reducible refine LeO.ite ?_ ?_)
      | (with_reducible refine LeO.bind ?_ (fun _ => ?_))
      | exact chordmailref03_apart.mono _ _ _
      | exact chordmailref03_less.mono _ _ _
      | exact chordmailref03_together.mono _ _ _
      | exact LeO.none _
      | refine LeO.ite ?_ ?_
theorem chordmailref03_Num_Add.calls (k : Nat) (a0_0 : Bool) (A0_1 : Option Addr) (c0_1 : Nat) (l0_1 : List Int) (a1_0 : Bool) (A1_1 : Option Addr) (c1_1 : Nat) (l1_1 : List Int) (r1 : Bool) (r2 : List Int) (w : World) (hr0_1 : Kd.C (Kd.int .i64) w A0_1 l0_1.length l0_1) (hc0_1 : l0_1.length ≤ c0_1) (hr1_1 : Kd.C (Kd.int .i64) w A1_1 l1_1.length l1_1) (hc1_1 : l1_1.length ≤ c1_1) (h : chordmailref03_Num_Add.f k a0_0 l0_1 a1_0 l1_1 = some (r1, r2)) :
    Calls Try.prog 31 #[.agg #[.bool a0_0, .slice A0_1 l0_1.length c0_1], .agg #[.bool a1_0, .slice A1_1 l1_1.length c1_1]] w fun e w' => ∃ v1_ : Value, e = .returned (.agg #[.bool r1, v1_]) ∧ Kd.V (Kd.int .i64) 3 w' w.heap.size (fun k_ => (w.heap.size ≤ k_)) v1_ r2 ∧ Below w.heap.size w w' := by
  unfold chordmailref03_Num_Add.f at h
  cases hab : (a0_0 == a1_0)
  · rw [if_neg (by rw [hab]; simp)] at h
    cases hl : chordmailref03_less.f k l0_1 l1_1 with
    | none => rw [hl] at h; simp at h
    | some b =>
      rw [hl] at h
      cases b
      · simp only [Option.bind_some, Bool.false_eq_true, if_false] at h
        cases hd : chordmailref03_apart.f k l0_1 l1_1 with
        | none => rw [hd] at h; simp at h
        | some r =>
          rw [hd] at h
          have e1 : (a0_0 && decide (0 < r.length)) = r1 ∧ r = r2 := by
            have e0 : decide ((r.length : Int) > 0) = decide (0 < r.length) := decide_eq_decide.mpr (by omega)
            simp only [Option.bind_some, e0] at h
            cases a0_0 <;> simpa using h
          obtain ⟨rfl, rfl⟩ := e1
          exact na_more k a0_0 a1_0 hab A0_1 c0_1 l0_1 A1_1 c1_1 l1_1 r w hr0_1 hc0_1 hr1_1 hc1_1 hl hd
      · simp only [Option.bind_some, if_true] at h
        cases hd : chordmailref03_apart.f k l1_1 l0_1 with
        | none => rw [hd] at h; simp at h
        | some r =>
          rw [hd] at h
          simp only [Option.bind_some, Option.some.injEq, Prod.mk.injEq] at h
          obtain ⟨rfl, rfl⟩ := h
          exact na_less k a0_0 a1_0 hab A0_1 c0_1 l0_1 A1_1 c1_1 l1_1 r w hr0_1 hc0_1 hr1_1 hc1_1 hl hd
  · rw [if_pos hab] at h
    have : a0_0 = a1_0 := by simpa using hab
    subst this
    cases hd : chordmailref03_together.f k l0_1 l1_1 with
    | none => rw [hd] at h; simp at h
    | some r =>
      rw [hd] at h
      simp only [Option.bind_some, Option.some.injEq, Prod.mk.injEq] at h
      obtain ⟨rfl, rfl⟩ := h
      exact na_same k a0_0 A0_1 c0_1 l0_1 A1_1 c1_1 l1_1 r w hr0_1 hc0_1 hr1_1 hc1_1 hd
/-! ### chordmailref03_Num_Int: function 32 -/
mutual
def chordmailref03_Num_Int.j0 : Nat → List Int → Bool → List Int → Option (Int × Int)
  | 0, _, _, _ => none
  | k + 1, x4, x150000, x150001 => (chordmailref03_less.f k x4 x150001).bind fun t160 => (if t160 = true then (some (0, 30)) else (chordmailref03_Num_Int.l0 k 0 (wrap64 ((x150001.length : Int) - 1)) x150000 x150001))
def chordmailref03_Num_Int.l0 : Nat → Int → Int → Bool → List Int → Option (Int × Int)
  | 0, _, _, _, _ => none
  | k + 1, x5, x6, x150000, x150001 => if x6 ≥ 0 then (if 0 ≤ x6 then (if x6 < (x150001.length : Int) then (chordmailref03_Num_Int.l0 k (IntKind.u64.wrap ((IntKind.u64.wrap (10 * x5)) + (IntKind.u64.wrap (rd x150001 x6)))) (wrap64 (x6 - 1)) x150000 x150001) else (none)) else (none)) else (if x150000 = true then (some (wrap64 (IntKind.u64.wrap (-x5)), 0)) else (some (wrap64 (x5), 0)))
end
def chordmailref03_Num_Int.f (k : Nat) (a0_0 : Bool) (l0_1 : List Int) : Option (Int × Int) := (chordmailref03_Of.f k 9223372036854775807).bind fun bt150 => (if a0_0 = true then ((chordmailref03_together.f k bt150.2 (([1] : List Int))).bind fun t157 => (chordmailref03_Num_Int.j0 k t157 a0_0 l0_1)) else (chordmailref03_Num_Int.j0 k bt150.2 a0_0 l0_1))
theorem chordmailref03_Num_Int.mono_l : ∀ k, (∀ y0 y1 y2, LeO (chordmailref03_Num_Int.j0 k y0 y1 y2) (chordmailref03_Num_Int.j0 (k + 1) y0 y1 y2)) ∧ (∀ y0 y1 y2 y3, LeO (chordmailref03_Num_Int.l0 k y0 y1 y2 y3) (chordmailref03_Num_Int.l0 (k + 1) y0 y1 y2 y3))
  | 0 => ⟨fun _ _ _ r h => by simp [chordmailref03_Num_Int.j0] at h, fun _ _ _ _ r h => by simp [chordmailref03_Num_Int.l0] at h⟩
  | k + 1 => by
    obtain ⟨ih0, ih1⟩ := chordmailref03_Num_Int.mono_l k
    refine ⟨?_, ?_⟩
    · intro y0 y1 y2
      unfold chordmailref03_Num_Int.j0
      repeat' first
      | (with_reducible exact ih0 _ _ _)
      | (with_reducible exact ih1 _ _ _ _)
      | (with_reducible exact chordmailref03_Of.mono _ _)
      | (with_reducible exact chordmailref03_less.mono _ _ _)
      | (with_reducible exact chordmailref03_together.mono _ _ _)
      | (with_reducible exact LeO.refl _)
      | (with_reducible exact LeO.none _)
      | (with_reducible refine LeO.ite ?_ ?_)
      | (with_reducible refine LeO.bind ?_ (fun _ => ?_))
      | exact ih0 _ _ _
      | exact ih1 _ _ _ _
      | exact chordmailref03_Of.mono _ _
      | exact chordmailref03_less.mono _ _ _
      | exact chordmailref03_together.mono _ _ _
      | exact LeO.none _
      | refine LeO.ite ?_ ?_
      | refine LeO.bind ?_ (fun _ => ?_)
    · intro y0 y1 y2 y3
      unfold chordmailref03_Num_Int.l0
      repeat' first
      | (with_reducible exact ih0 _ _ _)
      | (with_reducible exact ih1 _ _ _ _)
      | (with_reducible exact chordmailref03_Of.mono _ _)
      | (with_reducible exact chordmailref03_less.mono _ _ _)
      | (with_reducible exact chordmailref03_together.mono _ _ _)
      | (with_reducible exact LeO.refl _)
      | (with_reducible exact LeO.none _)
      | (with_reducible refine LeO.ite ?_ ?_)
      | (with_reducible refine LeO.bind ?_ (fun _ => ?_))
      | exact ih0 _ _ _
      | exact ih1 _ _ _ _
      | exact chordmailref03_Of.mono _ _
      | exact chordmailref03_less.mono _ _ _
      | exact chordmailref03_together.mono _ _ _
      | exact LeO.none _
      | refine LeO.ite ?_ ?_
      | refine LeO.bind ?_ (fun _ => ?_)
theorem chordmailref03_Num_Int.mono : ∀ a0 a1 k, LeO (chordmailref03_Num_Int.f k a0 a1) (chordmailref03_Num_Int.f (k + 1) a0 a1) := by
  intro a0 a1 k
  obtain ⟨ih0, ih1⟩ := chordmailref03_Num_Int.mono_l k
  unfold chordmailref03_Num_Int.f
  repeat' first
      | (with_reducible exact ih0 _ _ _)
      | (with_reducible exact ih1 _ _ _ _)
      | (with_reducible exact chordmailref03_Of.mono _ _)
      | (with_reducible exact chordmailref03_less.mono _ _ _)
      | (with_reducible exact chordmailref03_together.mono _ _ _)
      | (with_reducible exact LeO.refl _)
      | (with_reducible exact LeO.none _)
      | (with_reducible refine LeO.ite ?_ ?_)
      | (with_reducible refine LeO.bind ?_ (fun _ => ?_))
      | exact ih0 _ _ _
      | exact ih1 _ _ _ _
      | exact chordmailref03_Of.mono _ _
      | exact chordmailref03_less.mono _ _ _
      | exact chordmailref03_together.mono _ _ _
      | exact LeO.none _
      | refine LeO.ite ?_ ?_
      | refine LeO.bind ?_ (fun _ => ?_)
set_option maxHeartbeats 8000000 in
set_option maxRecDepth 100000 in
theorem chordmailref03_Num_Int.calls (k : Nat) (a0_0 : Bool) (A0_1 : Option Addr) (c0_1 : Nat) (l0_1 : List Int) (r1 : Int) (r2 : Int) (w : World) (hr0_1 : Kd.C (Kd.int .i64) w A0_1 l0_1.length l0_1) (hc0_1 : l0_1.length ≤ c0_1) (h : chordmailref03_Num_Int.f k a0_0 l0_1 = some (r1, r2)) :
    Calls Try.prog 32 #[.agg #[.bool a0_0, .slice A0_1 l0_1.length c0_1]] w fun e w' => e = .returned (.tuple #[.int .i64 r1, .int .i64 r2]) ∧ Below w.heap.size w w' := by
  have hu39 := Try.underlying39
  have hfd : ∀ (s : Bool) (v : Value) (w : World), (Instr.field 39 (.agg #[.bool s, v]) 1).run Try.prog w = .ok v w := fun _ _ _ => by kernel_rfl
  have HR0_1 := Aside0.mk hr0_1
  have HC0_1 := Aside0.mk hc0_1
  clear hr0_1 hc0_1
  have HB := Aside0.mk (Below.refl w.heap.size w)
  have H : ((chordmailref03_Of.f k 9223372036854775807).bind fun bt150 => (if a0_0 = true then ((chordmailref03_together.f k bt150.2 (([1] : List Int))).bind fun t157 => (chordmailref03_Num_Int.j0 k t157 a0_0 l0_1)) else (chordmailref03_Num_Int.j0 k bt150.2 a0_0 l0_1))) = some (r1, r2) := h
  clear h
  replace H := Option.bind_eq_some_iff.mp H
  obtain ⟨⟨t150, t151⟩, A20, H⟩ := H
  replace H : (if a0_0 = true then ((chordmailref03_together.f k t151 (([1] : List Int))).bind fun t157 => (chordmailref03_Num_Int.j0 k t157 a0_0 l0_1)) else (chordmailref03_Num_Int.j0 k t151 a0_0 l0_1)) = some (r1, r2) := H
  have A2 := Aside0.mk A20
  clear A20
  have HC3 := Aside0.mk H
  clear H
  go_enter Try.func32, Try.ntmps32
  go_upto_if 10 with (first | ((with_reducible refine gate_dst (N := 1) rfl ?_); refine box_event ?hg (N := 1) ?hd (cs := #[.bool a0_0, .slice A0_1 l0_1.length c0_1]) (t := 39) ?hr ?_; (case hd => rfl); (case hg => rfl); (case hr => first | (go_simp; done) | (go_simp; rfl)); intro gb149 hg w4 hbox hb; have n0_ := Aside0.mk (below_step (by repeat (first | (with_reducible first | exact HB.out | apply below_alloc | apply pw_below_drewN | apply below_drew1) | exact HB.out)) hb); have n1_ := Aside0.mk (hbox); have n2_ := Aside0.mk ((by rw [hg]; exact (below_size (by repeat (first | (with_reducible first | exact HB.out | apply below_alloc | apply pw_below_drewN | apply below_drew1) | exact HB.out))) : w.heap.size ≤ gb149)); have n3_ := Aside0.mk ((by rw [hg]; exact (below_size (by repeat (first | (with_reducible first | exact HB.out | apply below_alloc | apply pw_below_drewN | apply below_drew1) | exact HB.out))) : w.heap.size ≤ gb149)); clear HB; have HB := n0_; have BK149 := n1_; have GW149 := n2_; have GE149 := n3_; clear n0_ n1_ n2_ n3_; clear hb hbox hg) | ((with_reducible refine gate_callee (f := 30) rfl ?_); refine goesL_ (some 7) rfl rfl Try.func30 (by kernel_rfl) rfl #[.int .i64 9223372036854775807] rfl (by (try simp only [List.map_toArray, List.map_cons, List.map_nil]); first | done | rfl | (simp only [List.length_drop, List.length_take]; rfl)) ?_; (with_reducible refine (chordmailref03_Of.calls k 9223372036854775807 t150 t151 _ A2.out).mono ?_); rintro e w5 ⟨v152, rfl, ho0, hb⟩; refine ⟨_, rfl, ?_⟩; have n0_ := Aside0.mk (Kd.R_lower ho0 (below_size (by repeat (first | (with_reducible first | exact HB.out | apply below_alloc | apply pw_below_drewN | apply below_drew1 | refine below_set ?_ GE149.out) | exact HB.out)))); have n1_ := Aside0.mk (blk_below (g := gb149) (o := .cells #[.bool a0_0, .slice A0_1 l0_1.length c0_1] 39 (0, 0)) (by (with_reducible repeat (first | refine blk_drewN ?_ _ | refine blk_drew ?_ | refine blk_alloc ?_ _)); exact BK149.out) hb); have n2_ := Aside0.mk (below_step (by repeat (first | (with_reducible first | exact HB.out | apply below_alloc | apply pw_below_drewN | apply below_drew1 | refine below_set ?_ GE149.out) | exact HB.out)) hb); clear BK149; clear HB; have HO153 := n0_; have BK149 := n1_; have HB := n2_; clear n0_ n1_ n2_; (try clear hb); (try clear hb2); (try clear hk); (try clear hi); (try clear ho0); have hcz6_0 : w5.cell? ⟨gb149, 0, none⟩ = some (.bool a0_0) := (blk_cell BK149.out 0).trans rfl; have hcz6_1 : w5.cell? ⟨gb149, 1, none⟩ = some (.slice A0_1 l0_1.length c0_1) := (blk_cell BK149.out 1).trans rfl; have hfz6_0 := blk_frozen BK149.out 0; have hfz6_1 := blk_frozen BK149.out 1))
  (try simp only [Act.put, List.setIfInBounds_toArray, List.set_cons_zero, List.set_cons_succ])
  go_cut [4] (fun v4 wc => ∃ (kq : Nat) (x4_2 : List Int), Aside0 (chordmailref03_Num_Int.j0 kq x4_2 a0_0 l0_1 = some (r1, r2)) ∧ Aside0 (kq ≤ k) ∧ Aside0 (Kd.R (Kd.int .i64) 3 wc w.heap.size (fun _ => True) v4 x4_2) ∧ Aside0 (wc.heap[gb149]? = some (.cells #[.bool a0_0, (.slice A0_1 l0_1.length c0_1)] 39 (0, 0))) ∧ Aside0 (Below w.heap.size w wc))
  case first =>
    have H := HC3.out
    clear HC3
    by_cases c7 : a0_0 = true
    · subst c7
      have H1 : ((chordmailref03_together.f k t151 (([1] : List Int))).bind fun t157 => (chordmailref03_Num_Int.j0 k t157 true l0_1)) = some (r1, r2) := by rw [if_pos rfl] at H; exact H
      clear H
      have H := H1
      clear H1
      obtain ⟨y154, hy154⟩ : ∃ y_ : List Int, y_ = (([1] : List Int)) := ⟨_, rfl⟩
      replace H : ((chordmailref03_together.f k t151 y154).bind fun t157 => (chordmailref03_Num_Int.j0 k t157 true l0_1)) = some (r1, r2) := by first | (rw [hy154]; with_reducible exact H) | (have H2_ := (Option.bind_some _ _).symm.trans H; rw [hy154]; with_reducible exact H2_) | (have H2_ := (Option.bind_some _ _).symm.trans H; with_reducible exact H2_) | with_reducible exact H | (rw [hy154]; exact H) | exact H
      have Ny154 := Aside0.mk hy154
      clear hy154
      replace H := Option.bind_eq_some_iff.mp H
      obtain ⟨t157, A80, H⟩ := H
      replace H : (chordmailref03_Num_Int.j0 k t157 true l0_1) = some (r1, r2) := H
      have A8 := Aside0.mk A80
      clear A80
      have H' := Aside0.mk H
      clear H
      go_wp2_with (first | ((with_reducible refine gate_dst (N := 12) rfl ?_); refine Kd.R_lit (Kd.int .i64) _ 3 ?hg (N := 12) ?hd (xs := ([1] : List Int)) (inner := [.int .i64 1]) (ok := fun _ => True) (okp := fun _ => True) ?hr ?hp (fun _ hk => hk) trivial (Below.refl _ _) (Nat.le_refl _) (by simp) ?_; (case hd => rfl); (case hg => rfl); (case hr => first | (go_simp; done) | (go_simp; rfl)); (case hp => exact (Reps.one (show Kd.M (Kd.int .i64) _ _ _ 1 [.int .i64 1] from rfl) (Reps.none _ _))); intro v155 w9 ho10 hb hg_ hnew_; clear hg_ hnew_; (first | rw [← Ny154.out] at ho10 | (simp only [Int.reduceToNat] at ho10; rw [← Ny154.out] at ho10)); have n0_ := Aside0.mk (Kd.R_elder' (by (with_reducible repeat (first | apply Kd.R_alloc | apply Kd.R_drewN | apply Kd.R_drew)); exact HO153.out) (Kd.R_base ho10) hb); have n1_ := Aside0.mk (Kd.R_lower (Kd.R_new' ho10 (Kd.R_lt (by (with_reducible repeat (first | apply Kd.R_alloc | apply Kd.R_drewN | apply Kd.R_drew)); exact HO153.out))) (below_size (by repeat (first | (with_reducible first | exact HB.out | apply below_alloc | apply pw_below_drewN | apply below_drew1 | refine below_set ?_ GE149.out) | exact HB.out)))); have n2_ := Aside0.mk (blk_below (g := gb149) (o := .cells #[.bool true, .slice A0_1 l0_1.length c0_1] 39 (0, 0)) (by (with_reducible repeat (first | refine blk_drewN ?_ _ | refine blk_drew ?_ | refine blk_alloc ?_ _)); exact BK149.out) hb); have n3_ := Aside0.mk (below_step (by repeat (first | (with_reducible first | exact HB.out | apply below_alloc | apply pw_below_drewN | apply below_drew1 | refine below_set ?_ GE149.out) | exact HB.out)) hb); clear HO153; clear BK149; clear HB; have HO153 := n0_; have HO156 := n1_; have BK149 := n2_; have HB := n3_; clear n0_ n1_ n2_ n3_; clear hb ho10; obtain ⟨Ao11, co11, eo11⟩ := Kd.R_slice HO153.out; subst eo11; obtain ⟨Ao12, co12, eo12⟩ := Kd.R_slice HO156.out; subst eo12) | ((with_reducible refine gate_callee (f := 41) rfl ?_); refine goesL_ (some 13) rfl rfl Try.func41 (by kernel_rfl) rfl #[.slice Ao11 t151.length co11, .slice Ao12 y154.length co12] rfl (by (try simp only [List.map_toArray, List.map_cons, List.map_nil]); first | done | rfl | (simp only [List.length_drop, List.length_take]; rfl)) ?_; (with_reducible refine (chordmailref03_together.calls k _ _ t151 _ _ y154 t157 _ ?side1 ?side2 ?side3 ?side4 A8.out).mono ?_); (case side1 => repeat (first | exact (Kd.R_reads' HO153.out).2.2 | (with_reducible refine Kd.C_alloc ?_ _) | (with_reducible refine Kd.C_drewN ?_ _) | (with_reducible refine Kd.C_drew ?_))); (case side2 => exact (Kd.R_reads' HO153.out).2.1); (case side3 => repeat (first | exact (Kd.R_reads' HO156.out).2.2 | (with_reducible refine Kd.C_alloc ?_ _) | (with_reducible refine Kd.C_drewN ?_ _) | (with_reducible refine Kd.C_drew ?_))); (case side4 => exact (Kd.R_reads' HO156.out).2.1); rintro e w13 ⟨v158, rfl, ho0, hb⟩; refine ⟨_, rfl, ?_⟩; have n0_ := Aside0.mk (Kd.R_elder' (by (with_reducible repeat (first | apply Kd.R_alloc | apply Kd.R_drewN | apply Kd.R_drew)); exact HO153.out) (Kd.R_base ho0) hb); have n1_ := Aside0.mk (Kd.R_elder' (by (with_reducible repeat (first | apply Kd.R_alloc | apply Kd.R_drewN | apply Kd.R_drew)); exact HO156.out) (Kd.R_base ho0) hb); have n2_ := Aside0.mk (Kd.R_lower (Kd.R_new' (Kd.R_new' ho0 (Kd.R_lt (by (with_reducible repeat (first | apply Kd.R_alloc | apply Kd.R_drewN | apply Kd.R_drew)); exact HO153.out))) (Kd.R_lt (by (with_reducible repeat (first | apply Kd.R_alloc | apply Kd.R_drewN | apply Kd.R_drew)); exact HO156.out))) (below_size (by repeat (first | (with_reducible first | exact HB.out | apply below_alloc | apply pw_below_drewN | apply below_drew1 | refine below_set ?_ GE149.out) | exact HB.out)))); have n3_ := Aside0.mk (blk_below (g := gb149) (o := .cells #[.bool true, .slice A0_1 l0_1.length c0_1] 39 (0, 0)) (by (with_reducible repeat (first | refine blk_drewN ?_ _ | refine blk_drew ?_ | refine blk_alloc ?_ _)); exact BK149.out) hb); have n4_ := Aside0.mk (below_step (by repeat (first | (with_reducible first | exact HB.out | apply below_alloc | apply pw_below_drewN | apply below_drew1 | refine below_set ?_ GE149.out) | exact HB.out)) hb); clear HO153; clear HO156; clear BK149; clear HB; have HO153 := n0_; have HO156 := n1_; have HO159 := n2_; have BK149 := n3_; have HB := n4_; clear n0_ n1_ n2_ n3_ n4_; (try clear hb); (try clear hb2); (try clear hk); (try clear hi); (try clear ho0)))
      go_meet
      case rel => exact ⟨_, (t157), H', ⟨by first | omega | exact Nat.le_refl _⟩, ⟨by (with_reducible repeat (first | apply Kd.R_alloc | apply Kd.R_drewN | apply Kd.R_drew)); exact Kd.R_mono HO159.out (fun _ hk => trivial)⟩, ⟨by (with_reducible repeat (first | refine blk_drewN ?_ _ | refine blk_drew ?_ | refine blk_alloc ?_ _)); exact BK149.out⟩, ⟨by repeat (first | (with_reducible first | exact HB.out | apply below_alloc | apply pw_below_drewN | apply below_drew1 | refine below_set ?_ GE149.out) | exact HB.out)⟩⟩
    · replace c7 := Bool.eq_false_iff.mpr c7
      subst c7
      have H1 : (chordmailref03_Num_Int.j0 k t151 false l0_1) = some (r1, r2) := by rw [if_neg (show ¬ (false = true) by decide)] at H; exact H
      clear H
      have H := H1
      clear H1
      have H' := Aside0.mk H
      clear H
      go_wp2
      go_meet
      case rel => exact ⟨_, (t151), H', ⟨by first | omega | exact Nat.le_refl _⟩, ⟨by (with_reducible repeat (first | apply Kd.R_alloc | apply Kd.R_drewN | apply Kd.R_drew)); exact HO153.out⟩, ⟨by (with_reducible repeat (first | refine blk_drewN ?_ _ | refine blk_drew ?_ | refine blk_alloc ?_ _)); exact BK149.out⟩, ⟨by repeat (first | (with_reducible first | exact HB.out | apply below_alloc | apply pw_below_drewN | apply below_drew1 | refine below_set ?_ GE149.out) | exact HB.out)⟩⟩
  case rest =>
    clear HC3
    try clear p2
    try clear c3
    try clear c4
    try clear c7
    try clear hcz6_0
    try clear hcz6_1
    try clear hfz6_0
    try clear hfz6_1
    obtain ⟨kq, x4_2, HA, HJ2, HO_4, BK149, HB⟩ := hcut
    cases kq with
    | zero => exact absurd HA.out (by simp [chordmailref03_Num_Int.j0])
    | succ kj2 =>
      have H := HA.out
      clear HA
      simp only [chordmailref03_Num_Int.j0] at H
      replace H := Option.bind_eq_some_iff.mp H
      obtain ⟨t160, A140, H⟩ := H
      replace H : (if t160 = true then (some (0, 30)) else (chordmailref03_Num_Int.l0 kj2 0 (wrap64 ((l0_1.length : Int) - 1)) a0_0 l0_1)) = some (r1, r2) := H
      have A14 := Aside0.mk A140
      clear A140
      by_cases c15 : t160 = true
      · subst c15
        have H1 : (some (0, 30)) = some (r1, r2) := by rw [if_pos rfl] at H; exact H
        clear H
        have H := H1
        clear H1
        simp only [Option.some.injEq, Prod.mk.injEq] at H
        obtain ⟨rfl, rfl⟩ := H
        have hcz16_0 : wc.cell? ⟨gb149, 0, none⟩ = some (.bool a0_0) := (blk_cell BK149.out 0).trans rfl
        have hcz16_1 : wc.cell? ⟨gb149, 1, none⟩ = some (.slice A0_1 l0_1.length c0_1) := (blk_cell BK149.out 1).trans rfl
        have hfz16_0 := blk_frozen BK149.out 0
        have hfz16_1 := blk_frozen BK149.out 1
        obtain ⟨Ao17, co17, eo17⟩ := Kd.R_slice HO_4.out
        subst eo17
        go_wp2_with (first | ((with_reducible refine gate_callee (f := 42) rfl ?_); refine goesL_ (some 17) rfl rfl Try.func42 (by kernel_rfl) rfl #[.slice Ao17 x4_2.length co17, .slice A0_1 l0_1.length c0_1] rfl (by (try simp only [List.map_toArray, List.map_cons, List.map_nil]); first | done | rfl | (simp only [List.length_drop, List.length_take]; rfl)) ?_; (with_reducible refine (chordmailref03_less.calls kj2 _ _ x4_2 _ _ l0_1 true _ ?side1 ?side2 ?side3 ?side4 A14.out).mono ?_); (case side1 => repeat (first | exact (Kd.R_reads' HO_4.out).2.2 | (with_reducible refine Kd.C_alloc ?_ _) | (with_reducible refine Kd.C_drewN ?_ _) | (with_reducible refine Kd.C_drew ?_))); (case side2 => exact (Kd.R_reads' HO_4.out).2.1); (case side3 => repeat (first | exact (Kd.C_below HR0_1.out HB.out) | (with_reducible refine Kd.C_alloc ?_ _) | (with_reducible refine Kd.C_drewN ?_ _) | (with_reducible refine Kd.C_drew ?_))); (case side4 => exact HC0_1.out); rintro e w' ⟨rfl, ⟨nd, rfl⟩⟩; refine ⟨_, rfl, ?_⟩))
        go_ret2
        exact ⟨by first | rfl | (simp [errW_none, errW_some] <;> rfl) | (simp [*, errW_none, errW_some] <;> rfl), by repeat (first | (with_reducible first | exact HB.out | apply below_alloc | apply pw_below_drewN | apply below_drew1 | refine below_set ?_ GE149.out) | exact HB.out)⟩
      · replace c15 := Bool.eq_false_iff.mpr c15
        subst c15
        have H1 : (chordmailref03_Num_Int.l0 kj2 0 (wrap64 ((l0_1.length : Int) - 1)) a0_0 l0_1) = some (r1, r2) := by rw [if_neg (show ¬ (false = true) by decide)] at H; exact H
        clear H
        have H := H1
        clear H1
        have H' := Aside0.mk H
        clear H
        have hcz18_0 : wc.cell? ⟨gb149, 0, none⟩ = some (.bool a0_0) := (blk_cell BK149.out 0).trans rfl
        have hcz18_1 : wc.cell? ⟨gb149, 1, none⟩ = some (.slice A0_1 l0_1.length c0_1) := (blk_cell BK149.out 1).trans rfl
        have hfz18_0 := blk_frozen BK149.out 0
        have hfz18_1 := blk_frozen BK149.out 1
        obtain ⟨Ao19, co19, eo19⟩ := Kd.R_slice HO_4.out
        subst eo19
        go_wp2_with (first | ((with_reducible refine gate_callee (f := 42) rfl ?_); refine goesL_ (some 17) rfl rfl Try.func42 (by kernel_rfl) rfl #[.slice Ao19 x4_2.length co19, .slice A0_1 l0_1.length c0_1] rfl (by (try simp only [List.map_toArray, List.map_cons, List.map_nil]); first | done | rfl | (simp only [List.length_drop, List.length_take]; rfl)) ?_; (with_reducible refine (chordmailref03_less.calls kj2 _ _ x4_2 _ _ l0_1 false _ ?side1 ?side2 ?side3 ?side4 A14.out).mono ?_); (case side1 => repeat (first | exact (Kd.R_reads' HO_4.out).2.2 | (with_reducible refine Kd.C_alloc ?_ _) | (with_reducible refine Kd.C_drewN ?_ _) | (with_reducible refine Kd.C_drew ?_))); (case side2 => exact (Kd.R_reads' HO_4.out).2.1); (case side3 => repeat (first | exact (Kd.C_below HR0_1.out HB.out) | (with_reducible refine Kd.C_alloc ?_ _) | (with_reducible refine Kd.C_drewN ?_ _) | (with_reducible refine Kd.C_drew ?_))); (case side4 => exact HC0_1.out); rintro e w' ⟨rfl, ⟨nd, rfl⟩⟩; refine ⟨_, rfl, ?_⟩))
        go_loopg [5, 6] kj2 (fun kq v5 v6 w' => ∃ (x5_2 : Int) (x6_2 : Int), v5 = .int .u64 x5_2 ∧ v6 = .int .i64 x6_2 ∧ Aside0 (chordmailref03_Num_Int.l0 kq x5_2 x6_2 a0_0 l0_1 = some (r1, r2)) ∧ Aside0 (kq ≤ kj2) ∧ Aside0 (w'.heap[gb149]? = some (.cells #[.bool a0_0, (.slice A0_1 l0_1.length c0_1)] 39 (0, 0))) ∧ Aside0 (Below w.heap.size w w'))
        case atStart => exact ⟨(0), (wrap64 ((l0_1.length : Int) - 1)), (by first | rfl | (simp; done) | (simp [*]; done)), (by first | rfl | (simp; done) | (simp [*]; done)), H', ⟨Nat.le_refl _⟩, ⟨by (with_reducible repeat (first | refine blk_drewN ?_ _ | refine blk_drew ?_ | refine blk_alloc ?_ _)); exact BK149.out⟩, ⟨by repeat (first | (with_reducible first | exact HB.out | apply below_alloc | apply pw_below_drewN | apply below_drew1 | refine below_set ?_ GE149.out) | exact HB.out)⟩⟩
        case round =>
          clear H'
          try clear c1
          try clear p2
          try clear c3
          try clear c4
          try clear p6
          try clear c7
          try clear c15
          try clear hcz16_0
          try clear hcz16_1
          try clear hcz18_0
          try clear hcz18_1
          try clear hcz6_0
          try clear hcz6_1
          try clear hfz16_0
          try clear hfz16_1
          try clear hfz18_0
          try clear hfz18_1
          try clear hfz6_0
          try clear hfz6_1
          try clear p2
          obtain ⟨x5_2, x6_2, rfl, rfl, HA, HK2, BK149, HB⟩ := hrel
          cases gk with
          | zero => exact absurd HA.out (by simp [chordmailref03_Num_Int.l0])
          | succ k2 =>
            have H := HA.out
            clear HA
            simp only [chordmailref03_Num_Int.l0] at H
            by_cases c20 : x6_2 ≥ 0
            · rw [if_pos c20] at H
              have c20b0 : decide (0 ≤ x6_2) = true := decide_eq_true c20
              clear c20
              by_cases c21 : 0 ≤ x6_2
              · rw [if_pos c21] at H
                have c21b0 : decide (0 ≤ x6_2) = true := decide_eq_true c21
                clear c21
                by_cases c22 : x6_2 < (l0_1.length : Int)
                · rw [if_pos c22] at H
                  have c22b0 : decide (x6_2 < (l0_1.length : Int)) = true := decide_eq_true c22
                  clear c22
                  have H' := Aside0.mk H
                  clear H
                  have hcz23_0 : wr.cell? ⟨gb149, 0, none⟩ = some (.bool a0_0) := (blk_cell BK149.out 0).trans rfl
                  have hcz23_1 : wr.cell? ⟨gb149, 1, none⟩ = some (.slice A0_1 l0_1.length c0_1) := (blk_cell BK149.out 1).trans rfl
                  have hfz23_0 := blk_frozen BK149.out 0
                  have hfz23_1 := blk_frozen BK149.out 1
                  have p161 : 0 ≤ (x6_2 : Int) := of_decide_eq_true (by first | (with_reducible assumption) | assumption)
                  have q161 : x6_2 < (l0_1.length : Int) := of_decide_eq_true (by first | (with_reducible assumption) | assumption)
                  obtain ⟨ad161, e161, hx161_0⟩ := Kd.at_int HR0_1.out x6_2 p161 q161
                  cases e161
                  replace hx161_0 := (HB.out.cell (World.block_lt_of_cell? w _ hx161_0)).trans hx161_0
                  replace p161 := eq_true p161
                  replace q161 := eq_true q161
                  go_wp2
                  go_roundg k2
                  case measure => have := HJ2.out; have := HK2.out; omega
                  case rel => exact ⟨(IntKind.u64.wrap ((IntKind.u64.wrap (10 * x5_2)) + (IntKind.u64.wrap (rd l0_1 x6_2)))), (wrap64 (x6_2 - 1)), (by first | rfl | (simp; done) | (simp [*]; done)), (by first | rfl | (simp; done) | (simp [*]; done)), H', ⟨by have := HJ2.out; have := HK2.out; omega⟩, ⟨by (with_reducible repeat (first | refine blk_drewN ?_ _ | refine blk_drew ?_ | refine blk_alloc ?_ _)); exact BK149.out⟩, ⟨by repeat (first | (with_reducible first | exact HB.out | apply below_alloc | apply pw_below_drewN | apply below_drew1 | refine below_set ?_ GE149.out) | exact HB.out)⟩⟩
                · rw [if_neg c22] at H
                  exact absurd H (by simp)
              · rw [if_neg c21] at H
                exact absurd H (by simp)
            · rw [if_neg c20] at H
              have c20b0 : decide (0 ≤ x6_2) = false := decide_eq_false c20
              clear c20
              by_cases c24 : a0_0 = true
              · subst c24
                have H1 : (some (wrap64 (IntKind.u64.wrap (-x5_2)), 0)) = some (r1, r2) := by rw [if_pos rfl] at H; exact H
                clear H
                have H := H1
                clear H1
                simp only [Option.some.injEq, Prod.mk.injEq] at H
                obtain ⟨rfl, rfl⟩ := H
                have hcz25_0 : wr.cell? ⟨gb149, 0, none⟩ = some (.bool true) := (blk_cell BK149.out 0).trans rfl
                have hcz25_1 : wr.cell? ⟨gb149, 1, none⟩ = some (.slice A0_1 l0_1.length c0_1) := (blk_cell BK149.out 1).trans rfl
                have hfz25_0 := blk_frozen BK149.out 0
                have hfz25_1 := blk_frozen BK149.out 1
                go_wp2
                go_ret2
                exact ⟨by first | rfl | (simp [errW_none, errW_some] <;> rfl) | (simp [*, errW_none, errW_some] <;> rfl), by repeat (first | (with_reducible first | exact HB.out | apply below_alloc | apply pw_below_drewN | apply below_drew1 | refine below_set ?_ GE149.out) | exact HB.out)⟩
              · replace c24 := Bool.eq_false_iff.mpr c24
                subst c24
                have H1 : (some (wrap64 (x5_2), 0)) = some (r1, r2) := by rw [if_neg (show ¬ (false = true) by decide)] at H; exact H
                clear H
                have H := H1
                clear H1
                simp only [Option.some.injEq, Prod.mk.injEq] at H
                obtain ⟨rfl, rfl⟩ := H
                have hcz26_0 : wr.cell? ⟨gb149, 0, none⟩ = some (.bool false) := (blk_cell BK149.out 0).trans rfl
                have hcz26_1 : wr.cell? ⟨gb149, 1, none⟩ = some (.slice A0_1 l0_1.length c0_1) := (blk_cell BK149.out 1).trans rfl
                have hfz26_0 := blk_frozen BK149.out 0
                have hfz26_1 := blk_frozen BK149.out 1
                go_wp2
                go_ret2
                exact ⟨by first | rfl | (simp [errW_none, errW_some] <;> rfl) | (simp [*, errW_none, errW_some] <;> rfl), by repeat (first | (with_reducible first | exact HB.out | apply below_alloc | apply pw_below_drewN | apply below_drew1 | refine below_set ?_ GE149.out) | exact HB.out)⟩

end Go.Proofs.Ytacmheeodhjlbaa.PCheckedLists
