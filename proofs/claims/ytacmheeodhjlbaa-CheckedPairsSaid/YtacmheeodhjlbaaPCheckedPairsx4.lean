-- Printed by the kit's print and mended by this session's program: no print of the kit.
import Derived.Test.YtacmheeodhjlbaaPCheckedPairsx0
import Derived.Test.YtacmheeodhjlbaaPCheckedPairsx1
import Derived.Test.YtacmheeodhjlbaaPCheckedPairsx2
import Derived.Test.YtacmheeodhjlbaaPCheckedPairsx3
namespace Go.Proofs.Ytacmheeodhjlbaa.PCheckedPairs
open Go.RowKit Go.Proofs.YtacmheeodhjlbaaW.PrintWords Go.Proofs.YtacmheeodhjlbaaW.PrintLast Go.Proofs.YtacmheeodhjlbaaW.PrintMore
attribute [local go_sem] max2_int min2_int max_two min_two max_three min_three max_four min_four   -- for this text's walks alone
set_option linter.unusedVariables false
set_option linter.unusedSimpArgs false

/-! ### checked_Rem: function 21 -/
def checked_Rem.f (a0 : Int) (a1 : Int) : Option (Int × Int) := if a1 = 0 then (some (0, 31)) else (if a1 = (-1) then (some (0, 0)) else (some (Int.tmod a0 a1, 0)))
set_option maxHeartbeats 8000000 in
set_option maxRecDepth 100000 in
theorem checked_Rem.calls (a0 : Int) (a1 : Int) (r1 : Int) (r2 : Int) (w : World) (h : checked_Rem.f a0 a1 = some (r1, r2)) :
    Calls Try.prog 21 #[.int .i64 a0, .int .i64 a1] w fun e w' => e = .returned (.tuple #[.int .i64 r1, .int .i64 r2]) ∧ Drawn0 w w' := by
  have H : (if a1 = 0 then (some (0, 31)) else (if a1 = (-1) then (some (0, 0)) else (some (Int.tmod a0 a1, 0)))) = some (r1, r2) := h
  clear h
  by_cases c3 : a1 = 0
  · rw [if_pos c3] at H
    have c3b0 : (a1 == 0) = true := beq_iff_eq.mpr c3
    have c3b1 : (a1 != 0) = false := bne_eq_false_iff_eq.mpr c3
    clear c3
    simp only [Option.some.injEq, Prod.mk.injEq] at H
    obtain ⟨rfl, rfl⟩ := H
    go_enter Try.func21, Try.ntmps21
    go_wp2
    go_ret2
    exact ⟨by first | rfl | (simp; done) | (simp [*]; done), by repeat (first | exact Drawn0.refl _ | apply Drawn0.step)⟩
  · rw [if_neg c3] at H
    have c3b0 : (a1 == 0) = false := beq_eq_false_iff_ne.mpr c3
    have c3b1 : (a1 != 0) = true := bne_iff_ne.mpr c3
    by_cases c4 : a1 = (-1)
    · rw [if_pos c4] at H
      have c4b0 : (a1 == (-1)) = true := beq_iff_eq.mpr c4
      have c4b1 : (a1 != (-1)) = false := bne_eq_false_iff_eq.mpr c4
      clear c4
      simp only [Option.some.injEq, Prod.mk.injEq] at H
      obtain ⟨rfl, rfl⟩ := H
      go_enter Try.func21, Try.ntmps21
      go_wp2
      go_ret2
      exact ⟨by first | rfl | (simp; done) | (simp [*]; done), by repeat (first | exact Drawn0.refl _ | apply Drawn0.step)⟩
    · rw [if_neg c4] at H
      have c4b0 : (a1 == (-1)) = false := beq_eq_false_iff_ne.mpr c4
      have c4b1 : (a1 != (-1)) = true := bne_iff_ne.mpr c4
      simp only [Option.some.injEq, Prod.mk.injEq] at H
      obtain ⟨rfl, rfl⟩ := H
      go_enter Try.func21, Try.ntmps21
      go_wp2
      go_ret2
      exact ⟨by first | rfl | (simp; done) | (simp [*]; done), by repeat (first | exact Drawn0.refl _ | apply Drawn0.step)⟩

/-! ### chordmailref03_Rem: function 22 -/
def chordmailref03_Rem.f (a0 : Int) (a1 : Int) : Option (Int × Int) := if a1 = 0 then (some (0, 31)) else ((chordmailref03_far.f a0).bind fun t256 => ((chordmailref03_far.f a1).bind fun t257 => (if t257 = 0 then (none) else (if a0 < 0 then (some (wrap64 (IntKind.u64.wrap (-(Int.tmod t256 t257))), 0)) else (some (wrap64 (Int.tmod t256 t257), 0))))))
set_option maxHeartbeats 8000000 in
set_option maxRecDepth 100000 in
theorem chordmailref03_Rem.calls (a0 : Int) (a1 : Int) (r1 : Int) (r2 : Int) (w : World) (h : chordmailref03_Rem.f a0 a1 = some (r1, r2)) :
    Calls Try.prog 22 #[.int .i64 a0, .int .i64 a1] w fun e w' => e = .returned (.tuple #[.int .i64 r1, .int .i64 r2]) ∧ Drawn0 w w' := by
  have H : (if a1 = 0 then (some (0, 31)) else ((chordmailref03_far.f a0).bind fun t256 => ((chordmailref03_far.f a1).bind fun t257 => (if t257 = 0 then (none) else (if a0 < 0 then (some (wrap64 (IntKind.u64.wrap (-(Int.tmod t256 t257))), 0)) else (some (wrap64 (Int.tmod t256 t257), 0))))))) = some (r1, r2) := h
  clear h
  by_cases c3 : a1 = 0
  · rw [if_pos c3] at H
    have c3b0 : (a1 == 0) = true := beq_iff_eq.mpr c3
    have c3b1 : (a1 != 0) = false := bne_eq_false_iff_eq.mpr c3
    clear c3
    simp only [Option.some.injEq, Prod.mk.injEq] at H
    obtain ⟨rfl, rfl⟩ := H
    go_enter Try.func22, Try.ntmps22
    go_wp2
    go_ret2
    exact ⟨by first | rfl | (simp; done) | (simp [*]; done), by repeat (first | exact Drawn0.refl _ | apply Drawn0.step)⟩
  · rw [if_neg c3] at H
    have c3b0 : (a1 == 0) = false := beq_eq_false_iff_ne.mpr c3
    have c3b1 : (a1 != 0) = true := bne_iff_ne.mpr c3
    replace H := Option.bind_eq_some_iff.mp H
    obtain ⟨t256, A40, H⟩ := H
    replace H : ((chordmailref03_far.f a1).bind fun t257 => (if t257 = 0 then (none) else (if a0 < 0 then (some (wrap64 (IntKind.u64.wrap (-(Int.tmod t256 t257))), 0)) else (some (wrap64 (Int.tmod t256 t257), 0))))) = some (r1, r2) := H
    have A4 := Aside0.mk A40
    clear A40
    replace H := Option.bind_eq_some_iff.mp H
    obtain ⟨t257, A50, H⟩ := H
    replace H : (if t257 = 0 then (none) else (if a0 < 0 then (some (wrap64 (IntKind.u64.wrap (-(Int.tmod t256 t257))), 0)) else (some (wrap64 (Int.tmod t256 t257), 0)))) = some (r1, r2) := H
    have A5 := Aside0.mk A50
    clear A50
    by_cases c6 : t257 = 0
    · rw [if_pos c6] at H
      exact absurd H (by simp)
    · rw [if_neg c6] at H
      have c6b0 : (t257 == 0) = false := beq_eq_false_iff_ne.mpr c6
      have c6b1 : (t257 != 0) = true := bne_iff_ne.mpr c6
      by_cases c7 : a0 < 0
      · rw [if_pos c7] at H
        have c7b0 : decide (a0 < 0) = true := decide_eq_true c7
        clear c7
        simp only [Option.some.injEq, Prod.mk.injEq] at H
        obtain ⟨rfl, rfl⟩ := H
        go_enter Try.func22, Try.ntmps22
        go_wp2_with (first | ((with_reducible refine gate_callee (f := 38) rfl ?_); refine goesL_ (some 10) rfl rfl Try.func38 (by kernel_rfl) rfl #[.int .i64 a0] rfl (by (try simp only [List.map_toArray, List.map_cons, List.map_nil]); first | done | rfl | (simp only [List.length_drop, List.length_take]; rfl)) ?_; (with_reducible refine (chordmailref03_far.calls a0 t256 _ A4.out).mono ?_); rintro e w' ⟨rfl, ⟨nd, rfl⟩⟩; refine ⟨_, rfl, ?_⟩) | ((with_reducible refine gate_callee (f := 38) rfl ?_); refine goesL_ (some 12) rfl rfl Try.func38 (by kernel_rfl) rfl #[.int .i64 a1] rfl (by (try simp only [List.map_toArray, List.map_cons, List.map_nil]); first | done | rfl | (simp only [List.length_drop, List.length_take]; rfl)) ?_; (with_reducible refine (chordmailref03_far.calls a1 t257 _ A5.out).mono ?_); rintro e w' ⟨rfl, ⟨nd, rfl⟩⟩; refine ⟨_, rfl, ?_⟩))
        go_ret2
        exact ⟨by first | rfl | (simp; done) | (simp [*]; done), by repeat (first | exact Drawn0.refl _ | apply Drawn0.step)⟩
      · rw [if_neg c7] at H
        have c7b0 : decide (a0 < 0) = false := decide_eq_false c7
        clear c7
        simp only [Option.some.injEq, Prod.mk.injEq] at H
        obtain ⟨rfl, rfl⟩ := H
        go_enter Try.func22, Try.ntmps22
        go_wp2_with (first | ((with_reducible refine gate_callee (f := 38) rfl ?_); refine goesL_ (some 10) rfl rfl Try.func38 (by kernel_rfl) rfl #[.int .i64 a0] rfl (by (try simp only [List.map_toArray, List.map_cons, List.map_nil]); first | done | rfl | (simp only [List.length_drop, List.length_take]; rfl)) ?_; (with_reducible refine (chordmailref03_far.calls a0 t256 _ A4.out).mono ?_); rintro e w' ⟨rfl, ⟨nd, rfl⟩⟩; refine ⟨_, rfl, ?_⟩) | ((with_reducible refine gate_callee (f := 38) rfl ?_); refine goesL_ (some 12) rfl rfl Try.func38 (by kernel_rfl) rfl #[.int .i64 a1] rfl (by (try simp only [List.map_toArray, List.map_cons, List.map_nil]); first | done | rfl | (simp only [List.length_drop, List.length_take]; rfl)) ?_; (with_reducible refine (chordmailref03_far.calls a1 t257 _ A5.out).mono ?_); rintro e w' ⟨rfl, ⟨nd, rfl⟩⟩; refine ⟨_, rfl, ?_⟩))
        go_ret2
        exact ⟨by first | rfl | (simp; done) | (simp [*]; done), by repeat (first | exact Drawn0.refl _ | apply Drawn0.step)⟩

/-! ### chordmaillaw03_CheckedPairs: function 4 -/
mutual
def chordmaillaw03_CheckedPairs.j0 : Nat → Int → Int → Bool → Option (Bool)
  | 0, _, _, _ => none
  | k + 1, x0, x1, x28 => if x28 = true then (some false) else ((checked_Sub.f x0 x1).bind fun bt262 => ((chordmailref03_Sub.f k x0 x1).bind fun bt264 => (if bt262.1 = bt264.1 then (chordmaillaw03_CheckedPairs.j1 k x0 x1 (bt262.2 != bt264.2)) else (chordmaillaw03_CheckedPairs.j1 k x0 x1 true))))
def chordmaillaw03_CheckedPairs.j1 : Nat → Int → Int → Bool → Option (Bool)
  | 0, _, _, _ => none
  | k + 1, x0, x1, x48 => if x48 = true then (some false) else ((checked_Mul.f k x0 x1).bind fun bt266 => ((chordmailref03_Mul.f k x0 x1).bind fun bt268 => (if bt266.1 = bt268.1 then (chordmaillaw03_CheckedPairs.j2 k x0 x1 (bt266.2 != bt268.2)) else (chordmaillaw03_CheckedPairs.j2 k x0 x1 true))))
def chordmaillaw03_CheckedPairs.j2 : Nat → Int → Int → Bool → Option (Bool)
  | 0, _, _, _ => none
  | k + 1, x0, x1, x68 => if x68 = true then (some false) else ((checked_Neg.f x0).bind fun bt270 => ((chordmailref03_Neg.f k x0).bind fun bt272 => (if bt270.1 = bt272.1 then (chordmaillaw03_CheckedPairs.j3 k x0 x1 (bt270.2 != bt272.2)) else (chordmaillaw03_CheckedPairs.j3 k x0 x1 true))))
def chordmaillaw03_CheckedPairs.j3 : Nat → Int → Int → Bool → Option (Bool)
  | 0, _, _, _ => none
  | k + 1, x0, x1, x86 => if x86 = true then (some false) else ((checked_Div.f x0 x1).bind fun bt274 => ((chordmailref03_Div.f x0 x1).bind fun bt276 => (if bt274.1 = bt276.1 then (chordmaillaw03_CheckedPairs.j4 k x0 x1 (bt274.2 != bt276.2)) else (chordmaillaw03_CheckedPairs.j4 k x0 x1 true))))
def chordmaillaw03_CheckedPairs.j4 : Nat → Int → Int → Bool → Option (Bool)
  | 0, _, _, _ => none
  | k + 1, x0, x1, x106 => if x106 = true then (some false) else ((checked_Rem.f x0 x1).bind fun bt278 => ((chordmailref03_Rem.f x0 x1).bind fun bt280 => (if bt278.1 = bt280.1 then (some (bt278.2 == bt280.2)) else (some false))))
end
def chordmaillaw03_CheckedPairs.f (k : Nat) (a0 : Int) (a1 : Int) : Option (Bool) := (checked_Add.f a0 a1).bind fun bt258 => ((chordmailref03_Add.f k a0 a1).bind fun bt260 => (if bt258.1 = bt260.1 then (chordmaillaw03_CheckedPairs.j0 k a0 a1 (bt258.2 != bt260.2)) else (chordmaillaw03_CheckedPairs.j0 k a0 a1 true)))
theorem chordmaillaw03_CheckedPairs.mono_l : ∀ k, (∀ y0 y1 y2, LeO (chordmaillaw03_CheckedPairs.j0 k y0 y1 y2) (chordmaillaw03_CheckedPairs.j0 (k + 1) y0 y1 y2)) ∧ (∀ y0 y1 y2, LeO (chordmaillaw03_CheckedPairs.j1 k y0 y1 y2) (chordmaillaw03_CheckedPairs.j1 (k + 1) y0 y1 y2)) ∧ (∀ y0 y1 y2, LeO (chordmaillaw03_CheckedPairs.j2 k y0 y1 y2) (chordmaillaw03_CheckedPairs.j2 (k + 1) y0 y1 y2)) ∧ (∀ y0 y1 y2, LeO (chordmaillaw03_CheckedPairs.j3 k y0 y1 y2) (chordmaillaw03_CheckedPairs.j3 (k + 1) y0 y1 y2)) ∧ (∀ y0 y1 y2, LeO (chordmaillaw03_CheckedPairs.j4 k y0 y1 y2) (chordmaillaw03_CheckedPairs.j4 (k + 1) y0 y1 y2))
  | 0 => ⟨fun _ _ _ r h => by simp [chordmaillaw03_CheckedPairs.j0] at h, fun _ _ _ r h => by simp [chordmaillaw03_CheckedPairs.j1] at h, fun _ _ _ r h => by simp [chordmaillaw03_CheckedPairs.j2] at h, fun _ _ _ r h => by simp [chordmaillaw03_CheckedPairs.j3] at h, fun _ _ _ r h => by simp [chordmaillaw03_CheckedPairs.j4] at h⟩
  | k + 1 => by
    obtain ⟨ih0, ih1, ih2, ih3, ih4⟩ := chordmaillaw03_CheckedPairs.mono_l k
    refine ⟨?_, ?_, ?_, ?_, ?_⟩
    · intro y0 y1 y2
      unfold chordmaillaw03_CheckedPairs.j0
      repeat' first
      | (with_reducible exact ih0 _ _ _)
      | (with_reducible exact ih1 _ _ _)
      | (with_reducible exact ih2 _ _ _)
      | (with_reducible exact ih3 _ _ _)
      | (with_reducible exact ih4 _ _ _)
      | (with_reducible exact checked_Mul.mono _ _ _)
      | (with_reducible exact chordmailref03_Add.mono _ _ _)
      | (with_reducible exact chordmailref03_Mul.mono _ _ _)
      | (with_reducible exact chordmailref03_Neg.mono _ _)
      | (with_reducible exact chordmailref03_Sub.mono _ _ _)
      | (with_reducible exact LeO.refl _)
      | (with_reducible exact LeO.none _)
      | (with_reducible refine LeO.ite ?_ ?_)
      | (with_reducible refine LeO.bind ?_ (fun _ => ?_))
      | exact ih0 _ _ _
      | exact ih1 _ _ _
      | exact ih2 _ _ _
      | exact ih3 _ _ _
      | exact ih4 _ _ _
      | exact checked_Mul.mono _ _ _
      | exact chordmailref03_Add.mono _ _ _
      | exact chordmailref03_Mul.mono _ _ _
      | exact chordmailref03_Neg.mono _ _
      | exact chordmailref03_Sub.mono _ _ _
      | exact LeO.none _
      | refine LeO.ite ?_ ?_
      | refine LeO.bind ?_ (fun _ => ?_)
    · intro y0 y1 y2
      unfold chordmaillaw03_CheckedPairs.j1
      repeat' first
      | (with_reducible exact ih0 _ _ _)
      | (with_reducible exact ih1 _ _ _)
      | (with_reducible exact ih2 _ _ _)
      | (with_reducible exact ih3 _ _ _)
      | (with_reducible exact ih4 _ _ _)
      | (with_reducible exact checked_Mul.mono _ _ _)
      | (with_reducible exact chordmailref03_Add.mono _ _ _)
      | (with_reducible exact chordmailref03_Mul.mono _ _ _)
      | (with_reducible exact chordmailref03_Neg.mono _ _)
      | (with_reducible exact chordmailref03_Sub.mono _ _ _)
      | (with_reducible exact LeO.refl _)
      | (with_reducible exact LeO.none _)
      | (with_reducible refine LeO.ite ?_ ?_)
      | (with_reducible refine LeO.bind ?_ (fun _ => ?_))
      | exact ih0 _ _ _
      | exact ih1 _ _ _
      | exact ih2 _ _ _
      | exact ih3 _ _ _
      | exact ih4 _ _ _
      | exact checked_Mul.mono _ _ _
      | exact chordmailref03_Add.mono _ _ _
      | exact chordmailref03_Mul.mono _ _ _
      | exact chordmailref03_Neg.mono _ _
      | exact chordmailref03_Sub.mono _ _ _
      | exact LeO.none _
      | refine LeO.ite ?_ ?_
      | refine LeO.bind ?_ (fun _ => ?_)
    · intro y0 y1 y2
      unfold chordmaillaw03_CheckedPairs.j2
      repeat' first
      | (with_reducible exact ih0 _ _ _)
      | (with_reducible exact ih1 _ _ _)
      | (with_reducible exact ih2 _ _ _)
      | (with_reducible exact ih3 _ _ _)
      | (with_reducible exact ih4 _ _ _)
      | (with_reducible exact checked_Mul.mono _ _ _)
      | (with_reducible exact chordmailref03_Add.mono _ _ _)
      | (with_reducible exact chordmailref03_Mul.mono _ _ _)
      | (with_reducible exact chordmailref03_Neg.mono _ _)
      | (with_reducible exact chordmailref03_Sub.mono _ _ _)
      | (with_reducible exact LeO.refl _)
      | (with_reducible exact LeO.none _)
      | (with_reducible refine LeO.ite ?_ ?_)
      | (with_reducible refine LeO.bind ?_ (fun _ => ?_))
      | exact ih0 _ _ _
      | exact ih1 _ _ _
      | exact ih2 _ _ _
      | exact ih3 _ _ _
      | exact ih4 _ _ _
      | exact checked_Mul.mono _ _ _
      | exact chordmailref03_Add.mono _ _ _
      | exact chordmailref03_Mul.mono _ _ _
      | exact chordmailref03_Neg.mono _ _
      | exact chordmailref03_Sub.mono _ _ _
      | exact LeO.none _
      | refine LeO.ite ?_ ?_
      | refine LeO.bind ?_ (fun _ => ?_)
    · intro y0 y1 y2
      unfold chordmaillaw03_CheckedPairs.j3
      repeat' first
      | (with_reducible exact ih0 _ _ _)
      | (with_reducible exact ih1 _ _ _)
      | (with_reducible exact ih2 _ _ _)
      | (with_reducible exact ih3 _ _ _)
      | (with_reducible exact ih4 _ _ _)
      | (with_reducible exact checked_Mul.mono _ _ _)
      | (with_reducible exact chordmailref03_Add.mono _ _ _)
      | (with_reducible exact chordmailref03_Mul.mono _ _ _)
      | (with_reducible exact chordmailref03_Neg.mono _ _)
      | (with_reducible exact chordmailref03_Sub.mono _ _ _)
      | (with_reducible exact LeO.refl _)
      | (with_reducible exact LeO.none _)
      | (with_reducible refine LeO.ite ?_ ?_)
      | (with_reducible refine LeO.bind ?_ (fun _ => ?_))
      | exact ih0 _ _ _
      | exact ih1 _ _ _
      | exact ih2 _ _ _
      | exact ih3 _ _ _
      | exact ih4 _ _ _
      | exact checked_Mul.mono _ _ _
      | exact chordmailref03_Add.mono _ _ _
      | exact chordmailref03_Mul.mono _ _ _
      | exact chordmailref03_Neg.mono _ _
      | exact chordmailref03_Sub.mono _ _ _
      | exact LeO.none _
      | refine LeO.ite ?_ ?_
      | refine LeO.bind ?_ (fun _ => ?_)
    · intro y0 y1 y2
      unfold chordmaillaw03_CheckedPairs.j4
      repeat' first
      | (with_reducible exact ih0 _ _ _)
      | (with_reducible exact ih1 _ _ _)
      | (with_reducible exact ih2 _ _ _)
      | (with_reducible exact ih3 _ _ _)
      | (with_reducible exact ih4 _ _ _)
      | (with_reducible exact checked_Mul.mono _ _ _)
      | (with_reducible exact chordmailref03_Add.mono _ _ _)
      | (with_reducible exact chordmailref03_Mul.mono _ _ _)
      | (with_reducible exact chordmailref03_Neg.mono _ _)
      | (with_reducible exact chordmailref03_Sub.mono _ _ _)
      | (with_reducible exact LeO.refl _)
      | (with_reducible exact LeO.none _)
      | (with_reducible refine LeO.ite ?_ ?_)
      | (with_reducible refine LeO.bind ?_ (fun _ => ?_))
      | exact ih0 _ _ _
      | exact ih1 _ _ _
      | exact ih2 _ _ _
      | exact ih3 _ _ _
      | exact ih4 _ _ _
      | exact checked_Mul.mono _ _ _
      | exact chordmailref03_Add.mono _ _ _
      | exact chordmailref03_Mul.mono _ _ _
      | exact chordmailref03_Neg.mono _ _
      | exact chordmailref03_Sub.mono _ _ _
      | exact LeO.none _
      | refine LeO.ite ?_ ?_
      | refine LeO.bind ?_ (fun _ => ?_)
theorem chordmaillaw03_CheckedPairs.mono : ∀ a0 a1 k, LeO (chordmaillaw03_CheckedPairs.f k a0 a1) (chordmaillaw03_CheckedPairs.f (k + 1) a0 a1) := by
  intro a0 a1 k
  obtain ⟨ih0, ih1, ih2, ih3, ih4⟩ := chordmaillaw03_CheckedPairs.mono_l k
  unfold chordmaillaw03_CheckedPairs.f
  repeat' first
      | (with_reducible exact ih0 _ _ _)
      | (with_reducible exact ih1 _ _ _)
      | (with_reducible exact ih2 _ _ _)
      | (with_reducible exact ih3 _ _ _)
      | (with_reducible exact ih4 _ _ _)
      | (with_reducible exact checked_Mul.mono _ _ _)
      | (with_reducible exact chordmailref03_Add.mono _ _ _)
      | (with_reducible exact chordmailref03_Mul.mono _ _ _)
      | (with_reducible exact chordmailref03_Neg.mono _ _)
      | (with_reducible exact chordmailref03_Sub.mono _ _ _)
      | (with_reducible exact LeO.refl _)
      | (with_reducible exact LeO.none _)
      | (with_reducible refine LeO.ite ?_ ?_)
      | (with_reducible refine LeO.bind ?_ (fun _ => ?_))
      | exact ih0 _ _ _
      | exact ih1 _ _ _
      | exact ih2 _ _ _
      | exact ih3 _ _ _
      | exact ih4 _ _ _
      | exact checked_Mul.mono _ _ _
      | exact chordmailref03_Add.mono _ _ _
      | exact chordmailref03_Mul.mono _ _ _
      | exact chordmailref03_Neg.mono _ _
      | exact chordmailref03_Sub.mono _ _ _
      | exact LeO.none _
      | refine LeO.ite ?_ ?_
      | refine LeO.bind ?_ (fun _ => ?_)
set_option maxHeartbeats 8000000 in
set_option maxRecDepth 100000 in
theorem chordmaillaw03_CheckedPairs.calls (k : Nat) (a0 : Int) (a1 : Int) (r : Bool) (w : World) (h : chordmaillaw03_CheckedPairs.f k a0 a1 = some r) :
    Calls Try.prog 4 #[.int .i64 a0, .int .i64 a1] w fun e w' => e = .returned (.bool r) ∧ Below w.heap.size w w' := by
  have HB := Aside0.mk (Below.refl w.heap.size w)
  have H : ((checked_Add.f a0 a1).bind fun bt258 => ((chordmailref03_Add.f k a0 a1).bind fun bt260 => (if bt258.1 = bt260.1 then (chordmaillaw03_CheckedPairs.j0 k a0 a1 (bt258.2 != bt260.2)) else (chordmaillaw03_CheckedPairs.j0 k a0 a1 true)))) = some r := h
  clear h
  replace H := Option.bind_eq_some_iff.mp H
  obtain ⟨⟨t258, t259⟩, A30, H⟩ := H
  replace H : ((chordmailref03_Add.f k a0 a1).bind fun bt260 => (if t258 = bt260.1 then (chordmaillaw03_CheckedPairs.j0 k a0 a1 (t259 != bt260.2)) else (chordmaillaw03_CheckedPairs.j0 k a0 a1 true))) = some r := H
  have A3 := Aside0.mk A30
  clear A30
  replace H := Option.bind_eq_some_iff.mp H
  obtain ⟨⟨t260, t261⟩, A40, H⟩ := H
  replace H : (if t258 = t260 then (chordmaillaw03_CheckedPairs.j0 k a0 a1 (t259 != t261)) else (chordmaillaw03_CheckedPairs.j0 k a0 a1 true)) = some r := H
  have A4 := Aside0.mk A40
  clear A40
  have HC5 := Aside0.mk H
  clear H
  go_enter Try.func4, Try.ntmps4
  go_upto_region 3 with (first | ((with_reducible refine gate_callee (f := 11) rfl ?_); refine goesL_ (some 12) rfl rfl Try.func11 (by kernel_rfl) rfl #[.int .i64 a0, .int .i64 a1] rfl (by (try simp only [List.map_toArray, List.map_cons, List.map_nil]); first | done | rfl | (simp only [List.length_drop, List.length_take]; rfl)) ?_; (with_reducible refine (checked_Add.calls a0 a1 t258 t259 _ A3.out).mono ?_); rintro e w' ⟨rfl, ⟨nd, rfl⟩⟩; refine ⟨_, rfl, ?_⟩) | ((with_reducible refine gate_callee (f := 12) rfl ?_); refine goesL_ (some 18) rfl rfl Try.func12 (by kernel_rfl) rfl #[.int .i64 a0, .int .i64 a1] rfl (by (try simp only [List.map_toArray, List.map_cons, List.map_nil]); first | done | rfl | (simp only [List.length_drop, List.length_take]; rfl)) ?_; (with_reducible refine (chordmailref03_Add.calls k a0 a1 t260 t261 _ A4.out).mono ?_); rintro e w6 ⟨rfl, hb⟩; refine ⟨_, rfl, ?_⟩; have n0_ := Aside0.mk (below_step (by repeat (first | (with_reducible first | exact HB.out | apply below_alloc | apply pw_below_drewN | apply below_drew1) | exact HB.out)) hb); clear HB; have HB := n0_; clear n0_; (try clear hb); (try clear hb2); (try clear hk); (try clear hi)))
  (try simp only [Act.put, List.setIfInBounds_toArray, List.set_cons_zero, List.set_cons_succ])
  go_cut [28] (fun v28 wc => ∃ (kq : Nat) (x28_4 : Bool), v28 = .bool x28_4 ∧ Aside0 (chordmaillaw03_CheckedPairs.j0 kq a0 a1 x28_4 = some r) ∧ Aside0 (kq ≤ k) ∧ Aside0 (Below w.heap.size w wc))
  case first =>
    have H := HC5.out
    clear HC5
    by_cases c7 : t258 = t260
    · rw [if_pos c7] at H
      have c7b0 : (t258 == t260) = true := beq_iff_eq.mpr c7
      have c7b1 : (t258 != t260) = false := bne_eq_false_iff_eq.mpr c7
      clear c7
      (first | rw [c7b0] | (simp only [i64_w, i32_w]; rw [c7b0]) | skip)
      have H' := Aside0.mk H
      clear H
      go_wp2
      go_meet
      case rel => exact ⟨_, ((t259 != t261)), (by first | rfl | (simp; done) | (simp [*]; done)), H', ⟨by first | omega | exact Nat.le_refl _⟩, ⟨by repeat (first | (with_reducible first | exact HB.out | apply below_alloc | apply pw_below_drewN | apply below_drew1) | exact HB.out)⟩⟩
    · rw [if_neg c7] at H
      have c7b0 : (t258 == t260) = false := beq_eq_false_iff_ne.mpr c7
      have c7b1 : (t258 != t260) = true := bne_iff_ne.mpr c7
      (first | rw [c7b0] | (simp only [i64_w, i32_w]; rw [c7b0]) | skip)
      have H' := Aside0.mk H
      clear H
      go_wp2
      go_meet
      case rel => exact ⟨_, (true), (by first | rfl | (simp; done) | (simp [*]; done)), H', ⟨by first | omega | exact Nat.le_refl _⟩, ⟨by repeat (first | (with_reducible first | exact HB.out | apply below_alloc | apply pw_below_drewN | apply below_drew1) | exact HB.out)⟩⟩
  case rest =>
    clear HC5
    try clear c1
    try clear p2
    try clear c4
    try clear c7
    try clear c7b0
    try clear c7b1
    obtain ⟨kq, x28_4, rfl, HA, HJ4, HB⟩ := hcut
    cases kq with
    | zero => exact absurd HA.out (by simp [chordmaillaw03_CheckedPairs.j0])
    | succ kj4 =>
      have H := HA.out
      clear HA
      simp only [chordmaillaw03_CheckedPairs.j0] at H
      by_cases c8 : x28_4 = true
      · subst c8
        have H1 : (some false) = some r := by rw [if_pos rfl] at H; exact H
        clear H
        have H := H1
        clear H1
        obtain rfl := Option.some.inj H
        go_wp2
        go_ret
        exact ⟨by first | rfl | (simp [errW_none, errW_some] <;> rfl) | (simp [*, errW_none, errW_some] <;> rfl), by repeat (first | (with_reducible first | exact HB.out | apply below_alloc | apply pw_below_drewN | apply below_drew1) | exact HB.out)⟩
      · replace c8 := Bool.eq_false_iff.mpr c8
        subst c8
        have H1 : ((checked_Sub.f a0 a1).bind fun bt262 => ((chordmailref03_Sub.f kj4 a0 a1).bind fun bt264 => (if bt262.1 = bt264.1 then (chordmaillaw03_CheckedPairs.j1 kj4 a0 a1 (bt262.2 != bt264.2)) else (chordmaillaw03_CheckedPairs.j1 kj4 a0 a1 true)))) = some r := by rw [if_neg (show ¬ (false = true) by decide)] at H; exact H
        clear H
        have H := H1
        clear H1
        replace H := Option.bind_eq_some_iff.mp H
        obtain ⟨⟨t262, t263⟩, A90, H⟩ := H
        replace H : ((chordmailref03_Sub.f kj4 a0 a1).bind fun bt264 => (if t262 = bt264.1 then (chordmaillaw03_CheckedPairs.j1 kj4 a0 a1 (t263 != bt264.2)) else (chordmaillaw03_CheckedPairs.j1 kj4 a0 a1 true))) = some r := H
        have A9 := Aside0.mk A90
        clear A90
        replace H := Option.bind_eq_some_iff.mp H
        obtain ⟨⟨t264, t265⟩, A100, H⟩ := H
        replace H : (if t262 = t264 then (chordmaillaw03_CheckedPairs.j1 kj4 a0 a1 (t263 != t265)) else (chordmaillaw03_CheckedPairs.j1 kj4 a0 a1 true)) = some r := H
        have A10 := Aside0.mk A100
        clear A100
        have HC11 := Aside0.mk H
        clear H
        go_upto_region 7 with (first | ((with_reducible refine gate_callee (f := 13) rfl ?_); refine goesL_ (some 32) rfl rfl Try.func13 (by kernel_rfl) rfl #[.int .i64 a0, .int .i64 a1] rfl (by (try simp only [List.map_toArray, List.map_cons, List.map_nil]); first | done | rfl | (simp only [List.length_drop, List.length_take]; rfl)) ?_; (with_reducible refine (checked_Sub.calls a0 a1 t262 t263 _ A9.out).mono ?_); rintro e w' ⟨rfl, ⟨nd, rfl⟩⟩; refine ⟨_, rfl, ?_⟩) | ((with_reducible refine gate_callee (f := 14) rfl ?_); refine goesL_ (some 38) rfl rfl Try.func14 (by kernel_rfl) rfl #[.int .i64 a0, .int .i64 a1] rfl (by (try simp only [List.map_toArray, List.map_cons, List.map_nil]); first | done | rfl | (simp only [List.length_drop, List.length_take]; rfl)) ?_; (with_reducible refine (chordmailref03_Sub.calls kj4 a0 a1 t264 t265 _ A10.out).mono ?_); rintro e w12 ⟨rfl, hb⟩; refine ⟨_, rfl, ?_⟩; have n0_ := Aside0.mk (below_step (by repeat (first | (with_reducible first | exact HB.out | apply below_alloc | apply pw_below_drewN | apply below_drew1) | exact HB.out)) hb); clear HB; have HB := n0_; clear n0_; (try clear hb); (try clear hb2); (try clear hk); (try clear hi)))
        (try simp only [Act.put, List.setIfInBounds_toArray, List.set_cons_zero, List.set_cons_succ])
        go_cut [48] (fun v48 wc => ∃ (kq : Nat) (x48_10 : Bool), v48 = .bool x48_10 ∧ Aside0 (chordmaillaw03_CheckedPairs.j1 kq a0 a1 x48_10 = some r) ∧ Aside0 (kq ≤ kj4) ∧ Aside0 (Below w.heap.size w wc))
        case first =>
          have H := HC11.out
          clear HC11
          by_cases c13 : t262 = t264
          · rw [if_pos c13] at H
            have c13b0 : (t262 == t264) = true := beq_iff_eq.mpr c13
            have c13b1 : (t262 != t264) = false := bne_eq_false_iff_eq.mpr c13
            clear c13
            (first | rw [c13b0] | (simp only [i64_w, i32_w]; rw [c13b0]) | skip)
            have H' := Aside0.mk H
            clear H
            go_wp2
            go_meet
            case rel => exact ⟨_, ((t263 != t265)), (by first | rfl | (simp; done) | (simp [*]; done)), H', ⟨by have := HJ4.out; first | omega | exact Nat.le_refl _⟩, ⟨by repeat (first | (with_reducible first | exact HB.out | apply below_alloc | apply pw_below_drewN | apply below_drew1) | exact HB.out)⟩⟩
          · rw [if_neg c13] at H
            have c13b0 : (t262 == t264) = false := beq_eq_false_iff_ne.mpr c13
            have c13b1 : (t262 != t264) = true := bne_iff_ne.mpr c13
            (first | rw [c13b0] | (simp only [i64_w, i32_w]; rw [c13b0]) | skip)
            have H' := Aside0.mk H
            clear H
            go_wp2
            go_meet
            case rel => exact ⟨_, (true), (by first | rfl | (simp; done) | (simp [*]; done)), H', ⟨by have := HJ4.out; first | omega | exact Nat.le_refl _⟩, ⟨by repeat (first | (with_reducible first | exact HB.out | apply below_alloc | apply pw_below_drewN | apply below_drew1) | exact HB.out)⟩⟩
        case rest =>
          clear HC11
          try clear c1
          try clear p2
          try clear c4
          try clear c7
          try clear c7b0
          try clear c7b1
          try clear c8
          try clear c11
          try clear c12
          try clear c13
          try clear c13b0
          try clear c13b1
          try clear p2
          obtain ⟨kq, x48_10, rfl, HA, HJ10, HB⟩ := hcut
          cases kq with
          | zero => exact absurd HA.out (by simp [chordmaillaw03_CheckedPairs.j1])
          | succ kj10 =>
            have H := HA.out
            clear HA
            simp only [chordmaillaw03_CheckedPairs.j1] at H
            by_cases c14 : x48_10 = true
            · subst c14
              have H1 : (some false) = some r := by rw [if_pos rfl] at H; exact H
              clear H
              have H := H1
              clear H1
              obtain rfl := Option.some.inj H
              go_wp2
              go_ret
              exact ⟨by first | rfl | (simp [errW_none, errW_some] <;> rfl) | (simp [*, errW_none, errW_some] <;> rfl), by repeat (first | (with_reducible first | exact HB.out | apply below_alloc | apply pw_below_drewN | apply below_drew1) | exact HB.out)⟩
            · replace c14 := Bool.eq_false_iff.mpr c14
              subst c14
              have H1 : ((checked_Mul.f kj10 a0 a1).bind fun bt266 => ((chordmailref03_Mul.f kj10 a0 a1).bind fun bt268 => (if bt266.1 = bt268.1 then (chordmaillaw03_CheckedPairs.j2 kj10 a0 a1 (bt266.2 != bt268.2)) else (chordmaillaw03_CheckedPairs.j2 kj10 a0 a1 true)))) = some r := by rw [if_neg (show ¬ (false = true) by decide)] at H; exact H
              clear H
              have H := H1
              clear H1
              replace H := Option.bind_eq_some_iff.mp H
              obtain ⟨⟨t266, t267⟩, A150, H⟩ := H
              replace H : ((chordmailref03_Mul.f kj10 a0 a1).bind fun bt268 => (if t266 = bt268.1 then (chordmaillaw03_CheckedPairs.j2 kj10 a0 a1 (t267 != bt268.2)) else (chordmaillaw03_CheckedPairs.j2 kj10 a0 a1 true))) = some r := H
              have A15 := Aside0.mk A150
              clear A150
              replace H := Option.bind_eq_some_iff.mp H
              obtain ⟨⟨t268, t269⟩, A160, H⟩ := H
              replace H : (if t266 = t268 then (chordmaillaw03_CheckedPairs.j2 kj10 a0 a1 (t267 != t269)) else (chordmaillaw03_CheckedPairs.j2 kj10 a0 a1 true)) = some r := H
              have A16 := Aside0.mk A160
              clear A160
              have HC17 := Aside0.mk H
              clear H
              go_upto_region 11 with (first | ((with_reducible refine gate_callee (f := 15) rfl ?_); refine goesL_ (some 52) rfl rfl Try.func15 (by kernel_rfl) rfl #[.int .i64 a0, .int .i64 a1] rfl (by (try simp only [List.map_toArray, List.map_cons, List.map_nil]); first | done | rfl | (simp only [List.length_drop, List.length_take]; rfl)) ?_; (with_reducible refine (checked_Mul.calls kj10 a0 a1 t266 t267 _ A15.out).mono ?_); rintro e w' ⟨rfl, ⟨nd, rfl⟩⟩; refine ⟨_, rfl, ?_⟩) | ((with_reducible refine gate_callee (f := 16) rfl ?_); refine goesL_ (some 58) rfl rfl Try.func16 (by kernel_rfl) rfl #[.int .i64 a0, .int .i64 a1] rfl (by (try simp only [List.map_toArray, List.map_cons, List.map_nil]); first | done | rfl | (simp only [List.length_drop, List.length_take]; rfl)) ?_; (with_reducible refine (chordmailref03_Mul.calls kj10 a0 a1 t268 t269 _ A16.out).mono ?_); rintro e w18 ⟨rfl, hb⟩; refine ⟨_, rfl, ?_⟩; have n0_ := Aside0.mk (below_step (by repeat (first | (with_reducible first | exact HB.out | apply below_alloc | apply pw_below_drewN | apply below_drew1) | exact HB.out)) hb); clear HB; have HB := n0_; clear n0_; (try clear hb); (try clear hb2); (try clear hk); (try clear hi)))
              (try simp only [Act.put, List.setIfInBounds_toArray, List.set_cons_zero, List.set_cons_succ])
              go_cut [68] (fun v68 wc => ∃ (kq : Nat) (x68_16 : Bool), v68 = .bool x68_16 ∧ Aside0 (chordmaillaw03_CheckedPairs.j2 kq a0 a1 x68_16 = some r) ∧ Aside0 (kq ≤ kj10) ∧ Aside0 (Below w.heap.size w wc))
              case first =>
                have H := HC17.out
                clear HC17
                by_cases c19 : t266 = t268
                · rw [if_pos c19] at H
                  have c19b0 : (t266 == t268) = true := beq_iff_eq.mpr c19
                  have c19b1 : (t266 != t268) = false := bne_eq_false_iff_eq.mpr c19
                  clear c19
                  (first | rw [c19b0] | (simp only [i64_w, i32_w]; rw [c19b0]) | skip)
                  have H' := Aside0.mk H
                  clear H
                  go_wp2
                  go_meet
                  case rel => exact ⟨_, ((t267 != t269)), (by first | rfl | (simp; done) | (simp [*]; done)), H', ⟨by have := HJ4.out; have := HJ10.out; first | omega | exact Nat.le_refl _⟩, ⟨by repeat (first | (with_reducible first | exact HB.out | apply below_alloc | apply pw_below_drewN | apply below_drew1) | exact HB.out)⟩⟩
                · rw [if_neg c19] at H
                  have c19b0 : (t266 == t268) = false := beq_eq_false_iff_ne.mpr c19
                  have c19b1 : (t266 != t268) = true := bne_iff_ne.mpr c19
                  (first | rw [c19b0] | (simp only [i64_w, i32_w]; rw [c19b0]) | skip)
                  have H' := Aside0.mk H
                  clear H
                  go_wp2
                  go_meet
                  case rel => exact ⟨_, (true), (by first | rfl | (simp; done) | (simp [*]; done)), H', ⟨by have := HJ4.out; have := HJ10.out; first | omega | exact Nat.le_refl _⟩, ⟨by repeat (first | (with_reducible first | exact HB.out | apply below_alloc | apply pw_below_drewN | apply below_drew1) | exact HB.out)⟩⟩
              case rest =>
                clear HC17
                try clear c1
                try clear p2
                try clear c4
                try clear c7
                try clear c7b0
                try clear c7b1
                try clear c8
                try clear c11
                try clear c12
                try clear c13
                try clear c13b0
                try clear c13b1
                try clear c14
                try clear c15
                try clear c16
                try clear c19
                try clear c19b0
                try clear c19b1
                try clear p2
                obtain ⟨kq, x68_16, rfl, HA, HJ16, HB⟩ := hcut
                cases kq with
                | zero => exact absurd HA.out (by simp [chordmaillaw03_CheckedPairs.j2])
                | succ kj16 =>
                  have H := HA.out
                  clear HA
                  simp only [chordmaillaw03_CheckedPairs.j2] at H
                  by_cases c20 : x68_16 = true
                  · subst c20
                    have H1 : (some false) = some r := by rw [if_pos rfl] at H; exact H
                    clear H
                    have H := H1
                    clear H1
                    obtain rfl := Option.some.inj H
                    go_wp2
                    go_ret
                    exact ⟨by first | rfl | (simp [errW_none, errW_some] <;> rfl) | (simp [*, errW_none, errW_some] <;> rfl), by repeat (first | (with_reducible first | exact HB.out | apply below_alloc | apply pw_below_drewN | apply below_drew1) | exact HB.out)⟩
                  · replace c20 := Bool.eq_false_iff.mpr c20
                    subst c20
                    have H1 : ((checked_Neg.f a0).bind fun bt270 => ((chordmailref03_Neg.f kj16 a0).bind fun bt272 => (if bt270.1 = bt272.1 then (chordmaillaw03_CheckedPairs.j3 kj16 a0 a1 (bt270.2 != bt272.2)) else (chordmaillaw03_CheckedPairs.j3 kj16 a0 a1 true)))) = some r := by rw [if_neg (show ¬ (false = true) by decide)] at H; exact H
                    clear H
                    have H := H1
                    clear H1
                    replace H := Option.bind_eq_some_iff.mp H
                    obtain ⟨⟨t270, t271⟩, A210, H⟩ := H
                    replace H : ((chordmailref03_Neg.f kj16 a0).bind fun bt272 => (if t270 = bt272.1 then (chordmaillaw03_CheckedPairs.j3 kj16 a0 a1 (t271 != bt272.2)) else (chordmaillaw03_CheckedPairs.j3 kj16 a0 a1 true))) = some r := H
                    have A21 := Aside0.mk A210
                    clear A210
                    replace H := Option.bind_eq_some_iff.mp H
                    obtain ⟨⟨t272, t273⟩, A220, H⟩ := H
                    replace H : (if t270 = t272 then (chordmaillaw03_CheckedPairs.j3 kj16 a0 a1 (t271 != t273)) else (chordmaillaw03_CheckedPairs.j3 kj16 a0 a1 true)) = some r := H
                    have A22 := Aside0.mk A220
                    clear A220
                    have HC23 := Aside0.mk H
                    clear H
                    go_upto_region 15 with (first | ((with_reducible refine gate_callee (f := 17) rfl ?_); refine goesL_ (some 71) rfl rfl Try.func17 (by kernel_rfl) rfl #[.int .i64 a0] rfl (by (try simp only [List.map_toArray, List.map_cons, List.map_nil]); first | done | rfl | (simp only [List.length_drop, List.length_take]; rfl)) ?_; (with_reducible refine (checked_Neg.calls a0 t270 t271 _ A21.out).mono ?_); rintro e w' ⟨rfl, ⟨nd, rfl⟩⟩; refine ⟨_, rfl, ?_⟩) | ((with_reducible refine gate_callee (f := 18) rfl ?_); refine goesL_ (some 76) rfl rfl Try.func18 (by kernel_rfl) rfl #[.int .i64 a0] rfl (by (try simp only [List.map_toArray, List.map_cons, List.map_nil]); first | done | rfl | (simp only [List.length_drop, List.length_take]; rfl)) ?_; (with_reducible refine (chordmailref03_Neg.calls kj16 a0 t272 t273 _ A22.out).mono ?_); rintro e w24 ⟨rfl, hb⟩; refine ⟨_, rfl, ?_⟩; have n0_ := Aside0.mk (below_step (by repeat (first | (with_reducible first | exact HB.out | apply below_alloc | apply pw_below_drewN | apply below_drew1) | exact HB.out)) hb); clear HB; have HB := n0_; clear n0_; (try clear hb); (try clear hb2); (try clear hk); (try clear hi)))
                    (try simp only [Act.put, List.setIfInBounds_toArray, List.set_cons_zero, List.set_cons_succ])
                    go_cut [86] (fun v86 wc => ∃ (kq : Nat) (x86_22 : Bool), v86 = .bool x86_22 ∧ Aside0 (chordmaillaw03_CheckedPairs.j3 kq a0 a1 x86_22 = some r) ∧ Aside0 (kq ≤ kj16) ∧ Aside0 (Below w.heap.size w wc))
                    case first =>
                      have H := HC23.out
                      clear HC23
                      by_cases c25 : t270 = t272
                      · rw [if_pos c25] at H
                        have c25b0 : (t270 == t272) = true := beq_iff_eq.mpr c25
                        have c25b1 : (t270 != t272) = false := bne_eq_false_iff_eq.mpr c25
                        clear c25
                        (first | rw [c25b0] | (simp only [i64_w, i32_w]; rw [c25b0]) | skip)
                        have H' := Aside0.mk H
                        clear H
                        go_wp2
                        go_meet
                        case rel => exact ⟨_, ((t271 != t273)), (by first | rfl | (simp; done) | (simp [*]; done)), H', ⟨by have := HJ4.out; have := HJ10.out; have := HJ16.out; first | omega | exact Nat.le_refl _⟩, ⟨by repeat (first | (with_reducible first | exact HB.out | apply below_alloc | apply pw_below_drewN | apply below_drew1) | exact HB.out)⟩⟩
                      · rw [if_neg c25] at H
                        have c25b0 : (t270 == t272) = false := beq_eq_false_iff_ne.mpr c25
                        have c25b1 : (t270 != t272) = true := bne_iff_ne.mpr c25
                        (first | rw [c25b0] | (simp only [i64_w, i32_w]; rw [c25b0]) | skip)
                        have H' := Aside0.mk H
                        clear H
                        go_wp2
                        go_meet
                        case rel => exact ⟨_, (true), (by first | rfl | (simp; done) | (simp [*]; done)), H', ⟨by have := HJ4.out; have := HJ10.out; have := HJ16.out; first | omega | exact Nat.le_refl _⟩, ⟨by repeat (first | (with_reducible first | exact HB.out | apply below_alloc | apply pw_below_drewN | apply below_drew1) | exact HB.out)⟩⟩
                    case rest =>
                      clear HC23
                      try clear c1
                      try clear c2
                      try clear p2
                      try clear c4
                      try clear c7
                      try clear c7b0
                      try clear c7b1
                      try clear c8
                      try clear c11
                      try clear c12
                      try clear c13
                      try clear c13b0
                      try clear c13b1
                      try clear c14
                      try clear c15
                      try clear c16
                      try clear c17
                      try clear c18
                      try clear c19
                      try clear c19b0
                      try clear c19b1
                      try clear c20
                      try clear c25
                      try clear c25b0
                      try clear c25b1
                      try clear p2
                      obtain ⟨kq, x86_22, rfl, HA, HJ22, HB⟩ := hcut
                      cases kq with
                      | zero => exact absurd HA.out (by simp [chordmaillaw03_CheckedPairs.j3])
                      | succ kj22 =>
                        have H := HA.out
                        clear HA
                        simp only [chordmaillaw03_CheckedPairs.j3] at H
                        by_cases c26 : x86_22 = true
                        · subst c26
                          have H1 : (some false) = some r := by rw [if_pos rfl] at H; exact H
                          clear H
                          have H := H1
                          clear H1
                          obtain rfl := Option.some.inj H
                          go_wp2
                          go_ret
                          exact ⟨by first | rfl | (simp [errW_none, errW_some] <;> rfl) | (simp [*, errW_none, errW_some] <;> rfl), by repeat (first | (with_reducible first | exact HB.out | apply below_alloc | apply pw_below_drewN | apply below_drew1) | exact HB.out)⟩
                        · replace c26 := Bool.eq_false_iff.mpr c26
                          subst c26
                          have H1 : ((checked_Div.f a0 a1).bind fun bt274 => ((chordmailref03_Div.f a0 a1).bind fun bt276 => (if bt274.1 = bt276.1 then (chordmaillaw03_CheckedPairs.j4 kj22 a0 a1 (bt274.2 != bt276.2)) else (chordmaillaw03_CheckedPairs.j4 kj22 a0 a1 true)))) = some r := by rw [if_neg (show ¬ (false = true) by decide)] at H; exact H
                          clear H
                          have H := H1
                          clear H1
                          replace H := Option.bind_eq_some_iff.mp H
                          obtain ⟨⟨t274, t275⟩, A270, H⟩ := H
                          replace H : ((chordmailref03_Div.f a0 a1).bind fun bt276 => (if t274 = bt276.1 then (chordmaillaw03_CheckedPairs.j4 kj22 a0 a1 (t275 != bt276.2)) else (chordmaillaw03_CheckedPairs.j4 kj22 a0 a1 true))) = some r := H
                          have A27 := Aside0.mk A270
                          clear A270
                          replace H := Option.bind_eq_some_iff.mp H
                          obtain ⟨⟨t276, t277⟩, A280, H⟩ := H
                          replace H : (if t274 = t276 then (chordmaillaw03_CheckedPairs.j4 kj22 a0 a1 (t275 != t277)) else (chordmaillaw03_CheckedPairs.j4 kj22 a0 a1 true)) = some r := H
                          have A28 := Aside0.mk A280
                          clear A280
                          have HC29 := Aside0.mk H
                          clear H
                          go_upto_region 19 with (first | ((with_reducible refine gate_callee (f := 19) rfl ?_); refine goesL_ (some 90) rfl rfl Try.func19 (by kernel_rfl) rfl #[.int .i64 a0, .int .i64 a1] rfl (by (try simp only [List.map_toArray, List.map_cons, List.map_nil]); first | done | rfl | (simp only [List.length_drop, List.length_take]; rfl)) ?_; (with_reducible refine (checked_Div.calls a0 a1 t274 t275 _ A27.out).mono ?_); rintro e w' ⟨rfl, ⟨nd, rfl⟩⟩; refine ⟨_, rfl, ?_⟩) | ((with_reducible refine gate_callee (f := 20) rfl ?_); refine goesL_ (some 96) rfl rfl Try.func20 (by kernel_rfl) rfl #[.int .i64 a0, .int .i64 a1] rfl (by (try simp only [List.map_toArray, List.map_cons, List.map_nil]); first | done | rfl | (simp only [List.length_drop, List.length_take]; rfl)) ?_; (with_reducible refine (chordmailref03_Div.calls a0 a1 t276 t277 _ A28.out).mono ?_); rintro e w' ⟨rfl, ⟨nd, rfl⟩⟩; refine ⟨_, rfl, ?_⟩))
                          (try simp only [Act.put, List.setIfInBounds_toArray, List.set_cons_zero, List.set_cons_succ])
                          go_cut [106] (fun v106 wc => ∃ (kq : Nat) (x106_28 : Bool), v106 = .bool x106_28 ∧ Aside0 (chordmaillaw03_CheckedPairs.j4 kq a0 a1 x106_28 = some r) ∧ Aside0 (kq ≤ kj22) ∧ Aside0 (Below w.heap.size w wc))
                          case first =>
                            have H := HC29.out
                            clear HC29
                            by_cases c30 : t274 = t276
                            · rw [if_pos c30] at H
                              have c30b0 : (t274 == t276) = true := beq_iff_eq.mpr c30
                              have c30b1 : (t274 != t276) = false := bne_eq_false_iff_eq.mpr c30
                              clear c30
                              (first | rw [c30b0] | (simp only [i64_w, i32_w]; rw [c30b0]) | skip)
                              have H' := Aside0.mk H
                              clear H
                              go_wp2
                              go_meet
                              case rel => exact ⟨_, ((t275 != t277)), (by first | rfl | (simp; done) | (simp [*]; done)), H', ⟨by have := HJ4.out; have := HJ10.out; have := HJ16.out; have := HJ22.out; first | omega | exact Nat.le_refl _⟩, ⟨by repeat (first | (with_reducible first | exact HB.out | apply below_alloc | apply pw_below_drewN | apply below_drew1) | exact HB.out)⟩⟩
                            · rw [if_neg c30] at H
                              have c30b0 : (t274 == t276) = false := beq_eq_false_iff_ne.mpr c30
                              have c30b1 : (t274 != t276) = true := bne_iff_ne.mpr c30
                              (first | rw [c30b0] | (simp only [i64_w, i32_w]; rw [c30b0]) | skip)
                              have H' := Aside0.mk H
                              clear H
                              go_wp2
                              go_meet
                              case rel => exact ⟨_, (true), (by first | rfl | (simp; done) | (simp [*]; done)), H', ⟨by have := HJ4.out; have := HJ10.out; have := HJ16.out; have := HJ22.out; first | omega | exact Nat.le_refl _⟩, ⟨by repeat (first | (with_reducible first | exact HB.out | apply below_alloc | apply pw_below_drewN | apply below_drew1) | exact HB.out)⟩⟩
                          case rest =>
                            clear HC29
                            try clear c1
                            try clear c2
                            try clear p2
                            try clear c3
                            try clear c4
                            try clear c7
                            try clear c7b0
                            try clear c7b1
                            try clear c8
                            try clear c11
                            try clear c12
                            try clear c13
                            try clear c13b0
                            try clear c13b1
                            try clear c14
                            try clear c15
                            try clear c16
                            try clear c17
                            try clear c18
                            try clear c19
                            try clear c19b0
                            try clear c19b1
                            try clear c20
                            try clear c25
                            try clear c25b0
                            try clear c25b1
                            try clear c26
                            try clear c30
                            try clear c30b0
                            try clear c30b1
                            try clear p2
                            obtain ⟨kq, x106_28, rfl, HA, HJ28, HB⟩ := hcut
                            cases kq with
                            | zero => exact absurd HA.out (by simp [chordmaillaw03_CheckedPairs.j4])
                            | succ kj28 =>
                              have H := HA.out
                              clear HA
                              simp only [chordmaillaw03_CheckedPairs.j4] at H
                              by_cases c31 : x106_28 = true
                              · subst c31
                                have H1 : (some false) = some r := by rw [if_pos rfl] at H; exact H
                                clear H
                                have H := H1
                                clear H1
                                obtain rfl := Option.some.inj H
                                go_wp2
                                go_ret
                                exact ⟨by first | rfl | (simp [errW_none, errW_some] <;> rfl) | (simp [*, errW_none, errW_some] <;> rfl), by repeat (first | (with_reducible first | exact HB.out | apply below_alloc | apply pw_below_drewN | apply below_drew1) | exact HB.out)⟩
                              · replace c31 := Bool.eq_false_iff.mpr c31
                                subst c31
                                have H1 : ((checked_Rem.f a0 a1).bind fun bt278 => ((chordmailref03_Rem.f a0 a1).bind fun bt280 => (if bt278.1 = bt280.1 then (some (bt278.2 == bt280.2)) else (some false)))) = some r := by rw [if_neg (show ¬ (false = true) by decide)] at H; exact H
                                clear H
                                have H := H1
                                clear H1
                                replace H := Option.bind_eq_some_iff.mp H
                                obtain ⟨⟨t278, t279⟩, A320, H⟩ := H
                                replace H : ((chordmailref03_Rem.f a0 a1).bind fun bt280 => (if t278 = bt280.1 then (some (t279 == bt280.2)) else (some false))) = some r := H
                                have A32 := Aside0.mk A320
                                clear A320
                                replace H := Option.bind_eq_some_iff.mp H
                                obtain ⟨⟨t280, t281⟩, A330, H⟩ := H
                                replace H : (if t278 = t280 then (some (t279 == t281)) else (some false)) = some r := H
                                have A33 := Aside0.mk A330
                                clear A330
                                by_cases c34 : t278 = t280
                                · rw [if_pos c34] at H
                                  have c34b0 : (t278 == t280) = true := beq_iff_eq.mpr c34
                                  have c34b1 : (t278 != t280) = false := bne_eq_false_iff_eq.mpr c34
                                  clear c34
                                  obtain rfl := Option.some.inj H
                                  go_wp2_with (first | ((with_reducible refine gate_callee (f := 21) rfl ?_); refine goesL_ (some 110) rfl rfl Try.func21 (by kernel_rfl) rfl #[.int .i64 a0, .int .i64 a1] rfl (by (try simp only [List.map_toArray, List.map_cons, List.map_nil]); first | done | rfl | (simp only [List.length_drop, List.length_take]; rfl)) ?_; (with_reducible refine (checked_Rem.calls a0 a1 t278 t279 _ A32.out).mono ?_); rintro e w' ⟨rfl, ⟨nd, rfl⟩⟩; refine ⟨_, rfl, ?_⟩) | ((with_reducible refine gate_callee (f := 22) rfl ?_); refine goesL_ (some 116) rfl rfl Try.func22 (by kernel_rfl) rfl #[.int .i64 a0, .int .i64 a1] rfl (by (try simp only [List.map_toArray, List.map_cons, List.map_nil]); first | done | rfl | (simp only [List.length_drop, List.length_take]; rfl)) ?_; (with_reducible refine (chordmailref03_Rem.calls a0 a1 t280 t281 _ A33.out).mono ?_); rintro e w' ⟨rfl, ⟨nd, rfl⟩⟩; refine ⟨_, rfl, ?_⟩))
                                  go_ret
                                  exact ⟨by first | rfl | (simp [errW_none, errW_some] <;> rfl) | (simp [*, errW_none, errW_some] <;> rfl), by repeat (first | (with_reducible first | exact HB.out | apply below_alloc | apply pw_below_drewN | apply below_drew1) | exact HB.out)⟩
                                · rw [if_neg c34] at H
                                  have c34b0 : (t278 == t280) = false := beq_eq_false_iff_ne.mpr c34
                                  have c34b1 : (t278 != t280) = true := bne_iff_ne.mpr c34
                                  obtain rfl := Option.some.inj H
                                  go_wp2_with (first | ((with_reducible refine gate_callee (f := 21) rfl ?_); refine goesL_ (some 110) rfl rfl Try.func21 (by kernel_rfl) rfl #[.int .i64 a0, .int .i64 a1] rfl (by (try simp only [List.map_toArray, List.map_cons, List.map_nil]); first | done | rfl | (simp only [List.length_drop, List.length_take]; rfl)) ?_; (with_reducible refine (checked_Rem.calls a0 a1 t278 t279 _ A32.out).mono ?_); rintro e w' ⟨rfl, ⟨nd, rfl⟩⟩; refine ⟨_, rfl, ?_⟩) | ((with_reducible refine gate_callee (f := 22) rfl ?_); refine goesL_ (some 116) rfl rfl Try.func22 (by kernel_rfl) rfl #[.int .i64 a0, .int .i64 a1] rfl (by (try simp only [List.map_toArray, List.map_cons, List.map_nil]); first | done | rfl | (simp only [List.length_drop, List.length_take]; rfl)) ?_; (with_reducible refine (chordmailref03_Rem.calls a0 a1 t280 t281 _ A33.out).mono ?_); rintro e w' ⟨rfl, ⟨nd, rfl⟩⟩; refine ⟨_, rfl, ?_⟩))
                                  go_ret
                                  exact ⟨by first | rfl | (simp [errW_none, errW_some] <;> rfl) | (simp [*, errW_none, errW_some] <;> rfl), by repeat (first | (with_reducible first | exact HB.out | apply below_alloc | apply pw_below_drewN | apply below_drew1) | exact HB.out)⟩

/-- THE ONE PURE STATEMENT of chordmaillaw03_CheckedPairs: yours. -/
def chordmaillaw03_CheckedPairs.Pure : Prop := ∀ (a0 : Int) (a1 : Int), (Lit.int .i64 a0).wf = true → (Lit.int .i64 a1).wf = true → ∃ k, chordmaillaw03_CheckedPairs.f k a0 a1 = some true
theorem chordmaillaw03_CheckedPairs.walk (P : chordmaillaw03_CheckedPairs.Pure) (a0 : Int) (a1 : Int) (w : World) (w0 : (Lit.int .i64 a0).wf = true) (w1 : (Lit.int .i64 a1).wf = true) :
    Calls Try.prog 4 #[.int .i64 a0, .int .i64 a1] w fun e w' => e = .returned (.bool true) ∧ Below w.heap.size w w' := by
  obtain ⟨k, h⟩ := P a0 a1 w0 w1
  refine (chordmaillaw03_CheckedPairs.calls k a0 a1 true w h).mono ?_
  rintro e w' ⟨rfl, hd⟩
  exact ⟨rfl, hd⟩

end Go.Proofs.Ytacmheeodhjlbaa.PCheckedPairs
