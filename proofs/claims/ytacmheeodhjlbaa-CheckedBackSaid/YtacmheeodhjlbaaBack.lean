/- The walk of CheckedBack: what is added can be taken away, what is divided put together again. -/
import Derived.Test.YtacmheeodhjlbaaPicks
import Derived.Deep.CutRange
namespace Go.Proofs.Ytacmheeodhjlbaa
open Go.RowKit Go.WideShapes

theorem told_cases (n : Int) : ∃ x e, told n = .tuple #[.int .i64 x, .int .i64 e] ∧ ((e = 0 ∧ x = n ∧ InR n) ∨ (e = 30 ∧ x = 0 ∧ ¬ InR n)) := by
  by_cases h : InR n
  · exact ⟨n, 0, told_in h, .inl ⟨rfl, rfl, h⟩⟩
  · exact ⟨0, 30, told_out h, .inr ⟨rfl, rfl, h⟩⟩
theorem tdiv_facts {a b : Int} (hb : b ≠ 0) : b * Int.tdiv a b + Int.tmod a b = a ∧ (0 ≤ a → 0 ≤ Int.tmod a b ∧ 0 ≤ b * Int.tdiv a b) ∧ (a ≤ 0 → Int.tmod a b ≤ 0 ∧ b * Int.tdiv a b ≤ 0) ∧ Int.tmod a b < b.natAbs ∧ -(b.natAbs : Int) < Int.tmod a b := by
  have pos : ∀ x : Int, 0 ≤ x → 0 ≤ Int.tmod x b ∧ Int.tmod x b < b.natAbs ∧ 0 ≤ b * Int.tdiv x b := fun x hx => by
    rw [Int.tmod_eq_emod_of_nonneg hx]
    refine ⟨Int.emod_nonneg x hb, Int.emod_lt x hb, ?_⟩
    rcases Int.lt_or_le b 0 with h | h
    · have : Int.tdiv x b ≤ 0 := Int.tdiv_nonpos_of_nonneg_of_nonpos hx (by omega)
      exact Int.mul_nonneg_of_nonpos_of_nonpos (by omega) this
    · exact Int.mul_nonneg h (Int.tdiv_nonneg hx h)
  refine ⟨Int.mul_tdiv_add_tmod a b, fun h => ⟨(pos a h).1, (pos a h).2.2⟩, fun h => ?_, ?_, ?_⟩
  · obtain ⟨p1, _, p3⟩ := pos (-a) (by omega)
    rw [Int.neg_tmod] at p1
    rw [Int.neg_tdiv, Int.mul_neg] at p3
    omega
  · rcases Int.lt_or_le a 0 with h | h
    · obtain ⟨p1, _, _⟩ := pos (-a) (by omega)
      rw [Int.neg_tmod] at p1
      omega
    · exact (pos a h).2.1
  · rcases Int.lt_or_le a 0 with h | h
    · obtain ⟨_, p1, _⟩ := pos (-a) (by omega)
      rw [Int.neg_tmod] at p1
      omega
    · have := (pos a h).1
      omega
theorem tdiv_out {a b : Int} (ha : InR a) (h0 : b ≠ 0) (h : ¬ InR (a.tdiv b)) : a = -9223372036854775808 ∧ b = -1 := by
  by_cases h1 : b = -1
  · subst h1
    rw [Int.tdiv_neg, Int.tdiv_one] at h
    unfold InR at *
    omega
  · exact absurd (inR_tdiv ha h0 h1) h
theorem tmod_m1 (a : Int) : a.tmod (-1) = 0 := by rw [Int.tmod_neg, Int.tmod_one]
set_option maxRecDepth 100000 in
set_option maxHeartbeats 4000000 in
theorem parts_any (a b : Int) (ha : InR a) (hb : InR b) (w : World) : Calls Try.prog 28 #[.int .i64 a, .int .i64 b] w fun e w' => e = .returned (.bool true) ∧ w' = w := by
  have hD := div_any a b ha hb w
  have hR := rem_any a b hb w
  unfold toldDiv at hD
  unfold toldRem at hR
  by_cases h0 : b = 0
  · subst h0
    rw [if_pos rfl] at hD hR
    unfold tup at hD hR
    go_enter Try.func28, Try.ntmps28
    go_wp2_with fail
    refine hD.mono ?_
    rintro e w1 ⟨rfl, rfl⟩
    go_wp2_with fail
    refine hR.mono ?_
    rintro e w1 ⟨rfl, rfl⟩
    go_wp2_with fail
    go_ret
    exact ⟨rfl, rfl⟩
  rw [if_neg h0] at hD hR
  have t0 : (b == 0) = false := by rw [beq_eq_false_iff_ne]; exact h0
  by_cases hq : InR (a.tdiv b)
  · rw [told_in hq] at hD
    obtain ⟨f1, f2, f3, f4, f5⟩ := tdiv_facts (a := a) h0
    have hM := mul_any (a.tdiv b) b hq hb w
    rw [Int.mul_comm (a.tdiv b) b] at hM
    generalize a.tdiv b = q at *
    generalize a.tmod b = r at *
    generalize b * q = p at *
    unfold InR at ha hb
    have hp : InR p := by unfold InR; omega
    have hr : InR r := by unfold InR; omega
    have hA := add_any p r hp hr w
    rw [f1, told_in (by unfold InR; omega)] at hA
    rw [told_in hp] at hM
    unfold tup at hD hR hA hM
    have taa : (a == a) = true := beq_self_eq_true a
    clear f1 hp hr hq
    rcases Int.lt_trichotomy r 0 with c | c | c
    · have u1 : (r == 0) = false := by rw [beq_eq_false_iff_ne]; omega
      have u1' : (r != 0) = true := by rw [bne_iff_ne]; omega
      have u2 : decide (r < 0) = true := decide_eq_true c
      have u3 : decide (a < 0) = true := decide_eq_true (by omega)
      by_cases d : 0 < b
      · have v1 : decide (0 < b) = true := decide_eq_true d
        have v2 : decide (r < b) = true := decide_eq_true (by omega)
        have v3 : wrap64 (-b) = -b := IntWalk.wrap64_in _ (by omega)
        have v4 : decide (-b < r) = true := decide_eq_true (by omega)
        clear f2 f3 f4 f5
        go_enter Try.func28, Try.ntmps28
        go_wp2_with fail
        refine hD.mono ?_
        rintro e w1 ⟨rfl, rfl⟩
        go_wp2_with fail
        refine hR.mono ?_
        rintro e w1 ⟨rfl, rfl⟩
        go_wp2_with fail
        refine hM.mono ?_
        rintro e w1 ⟨rfl, rfl⟩
        go_wp2_with fail
        refine hA.mono ?_
        rintro e w1 ⟨rfl, rfl⟩
        go_wp2_with fail
        go_ret
        exact ⟨rfl, rfl⟩
      · have v1 : decide (0 < b) = false := decide_eq_false d
        have v2 : decide (b < 0) = true := decide_eq_true (by omega)
        have v3 : decide (b < r) = true := decide_eq_true (by omega)
        clear f2 f3 f4 f5
        go_enter Try.func28, Try.ntmps28
        go_wp2_with fail
        refine hD.mono ?_
        rintro e w1 ⟨rfl, rfl⟩
        go_wp2_with fail
        refine hR.mono ?_
        rintro e w1 ⟨rfl, rfl⟩
        go_wp2_with fail
        refine hM.mono ?_
        rintro e w1 ⟨rfl, rfl⟩
        go_wp2_with fail
        refine hA.mono ?_
        rintro e w1 ⟨rfl, rfl⟩
        go_wp2_with fail
        go_ret
        exact ⟨rfl, rfl⟩
    · subst c
      clear f2 f3 f4 f5
      go_enter Try.func28, Try.ntmps28
      go_wp2_with fail
      refine hD.mono ?_
      rintro e w1 ⟨rfl, rfl⟩
      go_wp2_with fail
      refine hR.mono ?_
      rintro e w1 ⟨rfl, rfl⟩
      go_wp2_with fail
      refine hM.mono ?_
      rintro e w1 ⟨rfl, rfl⟩
      go_wp2_with fail
      refine hA.mono ?_
      rintro e w1 ⟨rfl, rfl⟩
      go_wp2_with fail
      go_ret
      exact ⟨rfl, rfl⟩
    · have u1 : (r == 0) = false := by rw [beq_eq_false_iff_ne]; omega
      have u1' : (r != 0) = true := by rw [bne_iff_ne]; omega
      have u2 : decide (r < 0) = false := decide_eq_false (by omega)
      have u3 : decide (a < 0) = false := decide_eq_false (by omega)
      by_cases d : 0 < b
      · have v1 : decide (0 < b) = true := decide_eq_true d
        have v2 : decide (r < b) = true := decide_eq_true (by omega)
        have v3 : wrap64 (-b) = -b := IntWalk.wrap64_in _ (by omega)
        have v4 : decide (-b < r) = true := decide_eq_true (by omega)
        clear f2 f3 f4 f5
        go_enter Try.func28, Try.ntmps28
        go_wp2_with fail
        refine hD.mono ?_
        rintro e w1 ⟨rfl, rfl⟩
        go_wp2_with fail
        refine hR.mono ?_
        rintro e w1 ⟨rfl, rfl⟩
        go_wp2_with fail
        refine hM.mono ?_
        rintro e w1 ⟨rfl, rfl⟩
        go_wp2_with fail
        refine hA.mono ?_
        rintro e w1 ⟨rfl, rfl⟩
        go_wp2_with fail
        go_ret
        exact ⟨rfl, rfl⟩
      · have v1 : decide (0 < b) = false := decide_eq_false d
        have v2 : decide (b < 0) = true := decide_eq_true (by omega)
        have v3 : decide (b < r) = true := decide_eq_true (by omega)
        have v4 : decide (0 < r) = true := decide_eq_true c
        by_cases hm : b = -9223372036854775808
        · subst hm
          clear f2 f3 f4 f5
          go_enter Try.func28, Try.ntmps28
          go_wp2_with fail
          refine hD.mono ?_
          rintro e w1 ⟨rfl, rfl⟩
          go_wp2_with fail
          refine hR.mono ?_
          rintro e w1 ⟨rfl, rfl⟩
          go_wp2_with fail
          refine hM.mono ?_
          rintro e w1 ⟨rfl, rfl⟩
          go_wp2_with fail
          refine hA.mono ?_
          rintro e w1 ⟨rfl, rfl⟩
          go_wp2_with fail
          all_goals
            go_ret
            exact ⟨by simp, rfl⟩
        · have v5 : wrap64 (-b) = -b := IntWalk.wrap64_in _ (by omega)
          have v6 : decide (r < -b) = true := decide_eq_true (by omega)
          clear f2 f3 f4 f5
          go_enter Try.func28, Try.ntmps28
          go_wp2_with fail
          refine hD.mono ?_
          rintro e w1 ⟨rfl, rfl⟩
          go_wp2_with fail
          refine hR.mono ?_
          rintro e w1 ⟨rfl, rfl⟩
          go_wp2_with fail
          refine hM.mono ?_
          rintro e w1 ⟨rfl, rfl⟩
          go_wp2_with fail
          refine hA.mono ?_
          rintro e w1 ⟨rfl, rfl⟩
          go_wp2_with fail
          go_ret
          exact ⟨rfl, rfl⟩
  · obtain ⟨rfl, rfl⟩ := tdiv_out ha h0 hq
    rw [told_out hq] at hD
    rw [tmod_m1] at hR
    unfold tup at hD hR
    clear hq ha hb
    go_enter Try.func28, Try.ntmps28
    go_wp2_with fail
    refine hD.mono ?_
    rintro e w1 ⟨rfl, rfl⟩
    go_wp2_with fail
    refine hR.mono ?_
    rintro e w1 ⟨rfl, rfl⟩
    go_wp2_with fail
    go_ret
    exact ⟨rfl, rfl⟩
theorem mul_back {a b : Int} (hb : b ≠ 0) : (a * b).tdiv b = a ∧ (a * b).tmod b = 0 := ⟨Int.mul_tdiv_cancel a hb, Int.mul_tmod_left a b⟩
set_option maxRecDepth 100000 in
set_option maxHeartbeats 4000000 in
theorem back_any (a b : Int) (ha : InR a) (hb : InR b) (w : World) : Calls Try.prog 7 #[.int .i64 a, .int .i64 b] w fun e w' => e = .returned (.bool true) ∧ Below w.heap.size w w' := by
  have hAw := Lib.hid (awake_any w)
  have taa : (a != a) = false := by simp
  go_enter Try.func7, Try.ntmps7
  go_wp2_with fail
  refine hAw.out.mono ?_
  rintro e w1 ⟨rfl, hB⟩
  replace hB := Lib.hid hB
  obtain ⟨x, e, ht, hx⟩ := told_cases (a + b)
  have h1 := add_any a b ha hb w1
  rw [ht] at h1
  clear ht
  replace hx := Lib.hid hx
  go_wp2_with fail
  refine h1.mono ?_
  rintro e' w2 ⟨rfl, rfl⟩
  clear h1
  go_upto_if 26 with (fail)
  go_cut [] from 7 to 39 (fun wc => wc = w2)
  case first =>
    obtain ⟨rfl, rfl, c⟩ | ⟨rfl, rfl, c⟩ := hx.out
    · have h2 := sub_any (a + b) b c hb w2
      rw [show a + b - b = a by omega, told_in ha] at h2
      unfold tup at h2
      clear hx
      go_wp2_with fail
      refine h2.mono ?_
      rintro e' w3 ⟨rfl, rfl⟩
      go_wp2_with fail
      go_meet
      case rel => rfl
    · clear hx
      go_wp2_with fail
      go_meet
      case rel => rfl
  case rest =>
  obtain rfl := hcut
  clear hx
  obtain ⟨x, e, ht, hx⟩ := told_cases (a - b)
  have h1 := sub_any a b ha hb wc
  rw [ht] at h1
  clear ht
  replace hx := Lib.hid hx
  go_wp2_with fail
  refine h1.mono ?_
  rintro e' w2 ⟨rfl, rfl⟩
  clear h1
  go_upto_if 47 with (fail)
  go_cut [] from 7 to 60 (fun wc => wc = w2)
  case first =>
    obtain ⟨rfl, rfl, c⟩ | ⟨rfl, rfl, c⟩ := hx.out
    · have h2 := add_any (a - b) b c hb w2
      rw [show a - b + b = a by omega, told_in ha] at h2
      unfold tup at h2
      clear hx
      go_wp2_with fail
      refine h2.mono ?_
      rintro e' w3 ⟨rfl, rfl⟩
      go_wp2_with fail
      go_meet
      case rel => rfl
    · clear hx
      go_wp2_with fail
      go_meet
      case rel => rfl
  case rest =>
  obtain rfl := hcut
  clear hx
  obtain ⟨x, e, ht, hx⟩ := told_cases (a * b)
  have h1 := mul_any a b ha hb wc
  rw [ht] at h1
  clear ht
  replace hx := Lib.hid hx
  go_wp2_with fail
  refine h1.mono ?_
  rintro e' w2 ⟨rfl, rfl⟩
  clear h1
  go_upto_region 14 with (fail)
  go_cut [72] from 67 to 72 (fun v wc => ∃ c : Bool, v = .bool c ∧ Hid (c = decide (e = 0 ∧ b ≠ 0)) ∧ wc = w2)
  case first =>
    obtain ⟨rfl, rfl, c⟩ | ⟨rfl, rfl, c⟩ := hx.out
    · by_cases h0 : b = 0
      · have tb : (b != 0) = false := by simp [h0]
        replace h0 := Lib.hid h0
        clear hx
        go_wp2_with fail
        go_meet
        case rel => exact ⟨false, rfl, Lib.hid (by simp [h0.out]), rfl⟩
      · have tb : (b != 0) = true := by rw [bne_iff_ne]; exact h0
        replace h0 := Lib.hid h0
        clear hx
        go_wp2_with fail
        go_meet
        case rel => exact ⟨true, rfl, Lib.hid (by simp [h0.out]), rfl⟩
    · clear hx
      go_wp2_with fail
      go_meet
      case rel => exact ⟨false, rfl, Lib.hid (by simp), rfl⟩
  case rest =>
  obtain ⟨cc, rfl, hcc, rfl⟩ := hcut
  go_upto_if 72 with (fail)
  go_cut [] from 7 to 99 (fun wd => wd = wc)
  case first =>
    cases cc
    · clear hx
      go_wp2_with fail
      go_meet
      case rel => rfl
    · obtain ⟨rfl, h0⟩ : e = 0 ∧ b ≠ 0 := by simpa using hcc.out
      obtain ⟨_, rfl, c⟩ | ⟨h, _⟩ := hx.out
      · have h2 := div_any (a * b) b c hb wc
        have h3 := rem_any (a * b) b hb wc
        unfold toldDiv at h2
        unfold toldRem at h3
        rw [if_neg h0, (mul_back h0).1, told_in ha] at h2
        rw [if_neg h0, (mul_back h0).2] at h3
        unfold tup at h2 h3
        clear hx hcc c h0
        generalize a * b = p at *
        go_wp2_with fail
        refine h2.mono ?_
        rintro e' w3 ⟨rfl, rfl⟩
        go_wp2_with fail
        refine h3.mono ?_
        rintro e' w3 ⟨rfl, rfl⟩
        go_wp2_with fail
        go_meet
        case rel => rfl
      · cases h
  case rest =>
  obtain rfl := hcut
  clear hx hcc
  obtain ⟨x, e, ht, hx⟩ := told_cases (-a)
  have h1 := neg_any a ha wc
  rw [ht] at h1
  clear ht
  replace hx := Lib.hid hx
  go_wp2_with fail
  refine h1.mono ?_
  rintro e' w2 ⟨rfl, rfl⟩
  clear h1
  go_upto_if 106 with (fail)
  go_cut [] from 7 to 118 (fun wc => wc = w2)
  case first =>
    obtain ⟨rfl, rfl, c⟩ | ⟨rfl, rfl, c⟩ := hx.out
    · have h2 := neg_any (-a) c w2
      rw [show - -a = a by omega, told_in ha] at h2
      unfold tup at h2
      clear hx
      go_wp2_with fail
      refine h2.mono ?_
      rintro e' w3 ⟨rfl, rfl⟩
      go_wp2_with fail
      go_meet
      case rel => rfl
    · clear hx
      go_wp2_with fail
      go_meet
      case rel => rfl
  case rest =>
  obtain rfl := hcut
  clear hx
  have h1 := parts_any a b ha hb wc
  go_wp2_with fail
  refine h1.mono ?_
  rintro e' w3 ⟨rfl, rfl⟩
  go_wp2_with fail
  go_ret
  exact ⟨rfl, hB.out⟩
end Go.Proofs.Ytacmheeodhjlbaa
