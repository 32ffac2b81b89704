/- The walk of MaskPlaces: a number in a mask is found by its place, and the next one behind it. -/
import Derived.Test.YtmmhcfbnelggfaaDoorAwake
import Derived.Test.YtmmhcfbnelggfaaDoorLawOne
namespace Go.Proofs.YtmmhcfbnelggfaaDoor
open Go.RowKit

theorem rank_more (f g : Nat → Bool) (j n : Nat) (hj : j < n) (hf : f j = true) (hg : g j = false) (h : ∀ i, i ≠ j → f i = g i) : rankTo f n = rankTo g n + 1 := by
  obtain ⟨d, rfl⟩ := Nat.le.dest (show j + 1 ≤ n from hj)
  have h1 : rankTo f j = rankTo g j := rankTo_congr fun i hi => h i (by omega)
  have h2 : rankTo (fun i => f (j + 1 + i)) d = rankTo (fun i => g (j + 1 + i)) d := rankTo_congr fun i _ => h _ (by omega)
  have e1 : rankTo f (j + 1) = rankTo f j + if f j then 1 else 0 := rfl
  have e2 : rankTo g (j + 1) = rankTo g j + if g j then 1 else 0 := rfl
  rw [rankTo_add f (j + 1) d, rankTo_add g (j + 1) d, h2, e1, e2, hf, hg, h1]
  simp; omega
theorem bitN_nat (j i : Nat) (hj : j < 64) : (bitN (j : Nat)).testBit i = decide (j = i) := by
  rw [bitN_bit]
  simp only [show decide ((0 : Int) ≤ (j : Int)) = true by simp, show decide ((j : Int) < 64) = true by simp; omega, Bool.true_and]
  exact decide_eq_decide.2 (by omega)
theorem cnt_without {m : Nat} (hm : m < 18446744073709551616) (j : Nat) (hj : j < 64) (hf : m.testBit j = true) : cnt m = cnt (andn m (bitN j)) + 1 :=
  rank_more _ _ j 64 hj hf (by rw [andn_bit hm (bitN_lt _), bitN_nat _ _ hj]; simp) fun i hi => by
    rw [andn_bit hm (bitN_lt _), bitN_nat _ _ hj]; simp; intro _ e; exact hi e.symm
theorem cnt_with {m : Nat} (j : Nat) (hj : j < 64) (hf : m.testBit j = false) : cnt (m ||| bitN j) = cnt m + 1 :=
  rank_more _ _ j 64 hj (by rw [Nat.testBit_or, bitN_nat _ _ hj]; simp) hf fun i hi => by
    rw [Nat.testBit_or, bitN_nat _ _ hj]; simp; intro e; exact absurd e.symm hi
theorem with_same {m : Nat} (j : Nat) (hj : j < 64) (hf : m.testBit j = true) : m ||| bitN j = m := by
  apply Nat.eq_of_testBit_eq; intro i
  rw [Nat.testBit_or, bitN_nat _ _ hj]
  by_cases e : j = i
  · subst e; simp [hf]
  · simp [e]
theorem without_same {m : Nat} (hm : m < 18446744073709551616) (j : Nat) (hj : j < 64) (hf : m.testBit j = false) : andn m (bitN j) = m := by
  apply Nat.eq_of_testBit_eq; intro i
  rw [andn_bit hm (bitN_lt _), bitN_nat _ _ hj]
  by_cases e : j = i
  · subst e; simp [hf]
  · simp [e]

set_option maxRecDepth 100000 in
set_option maxHeartbeats 2000000 in
theorem maskPlaces_any (m : Nat) (hm : m < 18446744073709551616) (w : World) (hT : Tab w) :
    Calls Tryd.prog 7 #[.int .u64 m] w fun e w' => e = .returned (.bool true) ∧ Below w.heap.size w w' := by
  have hA := callsIn_wide.1 (awake_in 9 (by omega) w hT)
  replace hA := Lib.hid hA
  replace hT := Lib.hid hT
  go_enter Tryd.func7, Tryd.ntmps7
  go_wp2_with fail
  refine hA.out.mono ?_
  rintro e W ⟨rfl, hB⟩
  have hTW := hT.out.belowAll hB
  replace hTW := Lib.hid hTW
  replace hB := Lib.hid hB
  clear hA hT
  have hle := rankTo_le m.testBit 64
  have hle : cnt m ≤ 64 := hle
  go_wp2_with fail
  go_loop [4, 5] (fun n i => ∃ (j : Int) (r : Nat), -1 ≤ j ∧ j ≤ 64 ∧ i = .int .i64 j ∧ n = .int .i64 r ∧ r = rankTo m.testBit j.toNat) (fun _ i => (64 - intOf i).toNat)
  case atStart => exact ⟨-1, 0, by omega, by omega, rfl, rfl, rfl⟩
  case round =>
    obtain ⟨i, r, hi0, hi1, rfl, rfl, hr⟩ := hrel
    by_cases hlt : i < 64
    · have hns := next_sel m.testBit i hi0 (by omega)
      have cN := fun w hw => next_any m i hm (by omega) w hw
      have cR := fun w => rank_any m (i + 1) hm w
      have cS := fun (w : World) hw => select_any m (rankTo m.testBit (i + 1).toNat : Nat) hm w hw
      rw [show min (i + 1).toNat 64 = (i + 1).toNat by omega] at cR
      rw [hns] at cN
      unfold told at cN cS
      have cZ := fun w => rank_any m 0 hm w
      have cI := fun w => rank_any m i hm w
      rw [show min i.toNat 64 = i.toNat by omega] at cI
      generalize (selN m.testBit (rankTo m.testBit (i + 1).toNat : Nat)).getD 0 = x at *
      generalize (selN m.testBit (rankTo m.testBit (i + 1).toNat : Nat)).isSome = xo at *
      replace cN := Lib.hid cN
      replace cR := Lib.hid cR
      replace cS := Lib.hid cS
      clear hns
      by_cases hneg : i < 0
      · obtain rfl : i = -1 := by omega
        clear cI
        obtain rfl : r = 0 := hr
        replace cZ := Lib.hid cZ
        go_wp2_with (first | (go_at_call 18; refine (cN.out _ hTW.out).mono ?_; rintro e w' ⟨rfl, rfl⟩) | (go_at_call 16; refine (cS.out _ hTW.out).mono ?_; rintro e w' ⟨rfl, rfl⟩) | (go_at_call 27; first | (with_reducible refine (cR.out _).mono ?_; rintro e w' ⟨rfl, rfl⟩) | (with_reducible refine (cZ.out _).mono ?_; rintro e w' ⟨rfl, rfl⟩)))
        go_round
        case rel => exact ⟨0, 0, by omega, by omega, by go_num, rfl, rfl⟩
        case measure => simp [intOf]
      · obtain ⟨j, rfl⟩ : ∃ j : Nat, i = j := ⟨i.toNat, by omega⟩
        have hj : j < 64 := by omega
        have cS' := cS.out
        have cR' := cR.out
        rw [show ((j : Int) + 1).toNat = j + 1 by omega] at cS' cR'
        replace cS' := Lib.hid cS'
        replace cR' := Lib.hid cR'
        clear cS cR
        have cH := fun w => has_any m j hm w
        rw [has_bit j hj] at cH
        rw [Int.toNat_natCast] at cI hr
        have hr1 : rankTo m.testBit (j + 1) = rankTo m.testBit j + if m.testBit j then 1 else 0 := rfl
        have hrj := rankTo_le m.testBit j
        rw [← hr] at cI hr1 hrj
        have cW := fun w => with_any m j hm w
        have cO := fun w => without_any m j hm w
        have cC := fun w => count_any m hm w
        cases hf : m.testBit j
        · have hs := without_same hm j hj hf
          have hc := cnt_with j hj hf
          have cC2 := fun w => count_any (m ||| bitN j) (or_lt hm (bitN_lt _)) w
          rw [hf] at cH hr1
          rw [hs] at cO
          rw [hc] at cC2
          replace hr := Lib.hid hr
          generalize cnt m = c at *
          generalize m ||| bitN (j : Int) = m1 at *
          replace cZ := Lib.hid cZ
          replace cI := Lib.hid cI
          replace cH := Lib.hid cH
          replace cW := Lib.hid cW
          replace cO := Lib.hid cO
          replace cC := Lib.hid cC
          replace cC2 := Lib.hid cC2
          replace hs := Lib.hid hs
          replace hc := Lib.hid hc
          replace hf := Lib.hid hf
          replace hr1 := Lib.hid hr1
          go_wp2_with (first | (go_at_call 18; refine (cN.out _ hTW.out).mono ?_; rintro e w' ⟨rfl, rfl⟩) | (go_at_call 16; refine (cS'.out _ hTW.out).mono ?_; rintro e w' ⟨rfl, rfl⟩) | (go_at_call 27; first | (with_reducible refine (cR'.out _).mono ?_; rintro e w' ⟨rfl, rfl⟩) | (with_reducible refine (cI.out _).mono ?_; rintro e w' ⟨rfl, rfl⟩)) | (go_at_call 20; refine (cH.out _).mono ?_; rintro e w' ⟨rfl, rfl⟩) | (go_at_call 22; refine (cW.out _).mono ?_; rintro e w' ⟨rfl, rfl⟩) | (go_at_call 24; refine (cO.out _).mono ?_; rintro e w' ⟨rfl, rfl⟩) | (go_at_call 29; first | (with_reducible refine (cC.out _).mono ?_; rintro e w' ⟨rfl, rfl⟩) | (with_reducible refine (cC2.out _).mono ?_; rintro e w' ⟨rfl, rfl⟩)))
          go_round
          case rel => exact ⟨(j : Int) + 1, r, by omega, by omega, rfl, rfl, by rw [show ((j : Int) + 1).toNat = j + 1 by omega, hr1.out]; simp⟩
          case measure => simp [intOf]; omega
        · have hs := with_same j hj hf
          have hc := cnt_without hm j hj hf
          have cC2 := fun w => count_any (andn m (bitN j)) (andn_lt _ hm) w
          rw [hf] at cH hr1
          rw [hs] at cW
          replace hr := Lib.hid hr
          have c0 : 1 ≤ cnt m := by omega
          have hc' : cnt (andn m (bitN (j : Int))) = cnt m - 1 := by omega
          rw [hc'] at cC2
          clear hc hc'
          have cS2 := fun (w : World) hw => select_any m (r : Nat) hm w hw
          rw [selN_some hj hf (show (rankTo m.testBit j : Int) = (r : Nat) by rw [hr.out])] at cS2
          unfold told at cS2
          have hcc : ((cnt m - 1 : Nat) : Int) = (cnt m : Int) - 1 := by omega
          rw [hcc] at cC2
          clear hcc
          simp only [Option.getD_some, Option.isSome_some] at cS2
          generalize cnt m = c at *
          generalize andn m (bitN (j : Int)) = m1 at *
          replace cS2 := Lib.hid cS2
          replace cZ := Lib.hid cZ
          replace cI := Lib.hid cI
          replace cH := Lib.hid cH
          replace cW := Lib.hid cW
          replace cO := Lib.hid cO
          replace cC := Lib.hid cC
          replace cC2 := Lib.hid cC2
          replace hs := Lib.hid hs
          replace hf := Lib.hid hf
          replace hr1 := Lib.hid hr1
          go_wp2_with (first | (go_at_call 18; refine (cN.out _ hTW.out).mono ?_; rintro e w' ⟨rfl, rfl⟩) | (go_at_call 16; first | (with_reducible refine (cS'.out _ hTW.out).mono ?_; rintro e w' ⟨rfl, rfl⟩) | (with_reducible refine (cS2.out _ hTW.out).mono ?_; rintro e w' ⟨rfl, rfl⟩)) | (go_at_call 27; first | (with_reducible refine (cR'.out _).mono ?_; rintro e w' ⟨rfl, rfl⟩) | (with_reducible refine (cI.out _).mono ?_; rintro e w' ⟨rfl, rfl⟩)) | (go_at_call 20; refine (cH.out _).mono ?_; rintro e w' ⟨rfl, rfl⟩) | (go_at_call 22; refine (cW.out _).mono ?_; rintro e w' ⟨rfl, rfl⟩) | (go_at_call 24; refine (cO.out _).mono ?_; rintro e w' ⟨rfl, rfl⟩) | (go_at_call 29; first | (with_reducible refine (cC.out _).mono ?_; rintro e w' ⟨rfl, rfl⟩) | (with_reducible refine (cC2.out _).mono ?_; rintro e w' ⟨rfl, rfl⟩)))
          go_round
          case rel => exact ⟨(j : Int) + 1, r + 1, by omega, by omega, rfl, by go_num, by rw [show ((j : Int) + 1).toNat = j + 1 by omega, hr1.out]; simp⟩
          case measure => simp [intOf]; omega
    · obtain rfl : i = 64 := by omega
      have cC := fun w => count_any m hm w
      have hr' : r = cnt m := hr
      clear hr
      subst hr'
      replace cC := Lib.hid cC
      go_wp2_with (go_at_call 29; refine (cC.out _).mono ?_; rintro e w' ⟨rfl, rfl⟩)
      go_ret
      exact ⟨by simp, hB.out⟩
end Go.Proofs.YtmmhcfbnelggfaaDoor
