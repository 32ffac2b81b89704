/- The reference's sets: the number at a place, the next number. -/
import Derived.Test.YtmmhcfbnelggfaaDoorRef
namespace Go.Proofs.YtmmhcfbnelggfaaDoor
open Go.RowKit

theorem find_first {p : Nat → Bool} {k : Nat} (hk : k < 64) (hp : p k = true) (h : ∀ i, i < k → p i = false) : (List.range 64).find? p = some k := find_some hk hp h

set_option maxHeartbeats 800000 in
theorem refSelect_any (f : Nat → Bool) (i : Int) (w : World) :
    Calls Tryd.prog 17 #[.agg (setC f), .int .i64 i] w fun e w' => e = .returned (told (selN f i)) ∧ Below w.heap.size w w' := by
  go_enter Tryd.func17, Tryd.ntmps17
  go_wp2
  go_loopw [6] (fun j wr => ∃ k : Nat, k ≤ 64 ∧ j = .int .i64 k ∧ (∀ l, l < k → (f l && decide ((rankTo f l : Int) = i)) = false) ∧ Blk wr w.heap.size (setC f) 29 ∧ Below w.heap.size w wr) (fun j _ => 64 - (intOf j).toNat)
  case atStart => exact ⟨0, by omega, rfl, fun l hl => by omega, Blk.new w _ _, (Below.refl _ w).alloc (Nat.le_refl _) _⟩
  case round =>
    obtain ⟨k, hk, rfl, hno, hb, hB⟩ := hrel
    by_cases h1 : k < 64
    · have hc := setC_at f k h1 hb
      have hlt := hb.lt
      have hnext : (f k && decide ((rankTo f k : Int) = i)) = false → ∀ l, l < k + 1 → (f l && decide ((rankTo f l : Int) = i)) = false := fun h l hl => by
        rcases Nat.lt_or_ge l k with h2 | h2
        · exact hno l h2
        · obtain rfl : l = k := by omega
          exact h
      cases hf : f k
      · rw [hf] at hc
        have hn2 := hnext (by rw [hf]; rfl)
        replace hn2 := Lib.hid hn2
        replace hf := Lib.hid hf
        replace hb := Lib.hid hb
        clear hno hnext
        go_wp2
        go_roundw
        case rel => exact ⟨k + 1, by omega, by go_num, hn2.out, hb.out, hB⟩
        case measure => simp [intOf]; omega
      · have hR := refRank_any f k wr
        rw [show min (k : Int).toNat 64 = k by omega] at hR
        rw [hf] at hc
        by_cases hr : (rankTo f k : Int) = i
        · have hsel := find_first h1 (show (f k && decide ((rankTo f k : Int) = i)) = true by simp [hf, hr]) hno
          have ht : ((rankTo f k : Int) == i) = true := by simp [hr]
          generalize rankTo f k = r at *
          replace hr := Lib.hid hr
          replace hf := Lib.hid hf
          replace hb := Lib.hid hb
          replace hsel := Lib.hid hsel
          replace hR := Lib.hid hR
          clear hno hnext
          go_wp2_with (first | (refine wpList_load_row_want (by rfl) 29 (.tmp 2) (by rfl) w.heap.size (by rfl) 29 _ (0, 0) _ hb.out.eq Tryd.underlying29 rfl (size_set _) ?_) | (go_at_call 28; refine (hR.out).mono ?_; rintro e w' ⟨rfl, hB2⟩))
          go_ret2
          refine ⟨?_, hB.trans (hB2.mono (by omega))⟩
          unfold selN
          rw [hsel.out]
          rfl
        · have hn2 := hnext (by rw [hf]; simp [hr])
          have ht : ((rankTo f k : Int) == i) = false := by simp [hr]
          generalize rankTo f k = r at *
          replace hr := Lib.hid hr
          replace hf := Lib.hid hf
          replace hb := Lib.hid hb
          replace hn2 := Lib.hid hn2
          replace hR := Lib.hid hR
          clear hno hnext
          go_wp2_with (first | (refine wpList_load_row_want (by rfl) 29 (.tmp 2) (by rfl) w.heap.size (by rfl) 29 _ (0, 0) _ hb.out.eq Tryd.underlying29 rfl (size_set _) ?_) | (go_at_call 28; refine (hR.out).mono ?_; rintro e w' ⟨rfl, hB2⟩))
          go_roundw
          case rel => exact ⟨k + 1, by omega, by go_num, hn2.out, hb.out.below hB2 hlt, hB.trans (hB2.mono (by omega))⟩
          case measure => simp [intOf]; omega
    · obtain rfl : k = 64 := by omega
      have hsel := find_none hno
      replace hsel := Lib.hid hsel
      replace hb := Lib.hid hb
      clear hno
      go_wp2
      go_ret2
      refine ⟨?_, hB⟩
      unfold selN
      rw [hsel.out]
      rfl

set_option maxHeartbeats 800000 in
theorem refNext_any (f : Nat → Bool) (i : Int) (w : World) :
    Calls Tryd.prog 19 #[.agg (setC f), .int .i64 i] w fun e w' => e = .returned (told (nextN f i)) ∧ Below w.heap.size w w' := by
  have hb := Blk.new w (setC f) 29
  replace hb := Lib.hid hb
  go_enter Tryd.func19, Tryd.ntmps19
  go_wp2
  go_loop [6] (fun j => ∃ k : Nat, k ≤ 64 ∧ j = .int .i64 k ∧ ∀ l : Nat, l < k → (decide (i < (l : Int)) && f l) = false) (fun j => 64 - (intOf j).toNat)
  case atStart => exact ⟨0, by omega, rfl, fun l hl => by omega⟩
  case round =>
    obtain ⟨k, hk, rfl, hno⟩ := hrel
    by_cases h1 : k < 64
    · have hc := setC_at f k h1 hb.out
      have hnext : (decide (i < (k : Int)) && f k) = false → ∀ l : Nat, l < k + 1 → (decide (i < (l : Int)) && f l) = false := fun h l hl => by
        rcases Nat.lt_or_ge l k with h2 | h2
        · exact hno l h2
        · obtain rfl : l = k := by omega
          exact h
      by_cases hi : i < (k : Int)
      · cases hf : f k
        · rw [hf] at hc
          have hn2 := hnext (by rw [hf]; simp)
          replace hn2 := Lib.hid hn2
          replace hf := Lib.hid hf
          clear hno hnext
          go_wp2
          go_round
          case rel => exact ⟨k + 1, by omega, by go_num, hn2.out⟩
          case measure => simp [intOf]; omega
        · rw [hf] at hc
          have hsel := find_first h1 (show (decide (i < (k : Int)) && f k) = true by simp [hf, hi]) hno
          replace hsel := Lib.hid hsel
          replace hf := Lib.hid hf
          clear hno hnext
          go_wp2
          go_ret2
          refine ⟨?_, (Below.refl _ w).alloc (Nat.le_refl _) _⟩
          unfold nextN
          rw [hsel.out]
          rfl
      · have hn2 := hnext (by simp [hi])
        replace hn2 := Lib.hid hn2
        clear hno hnext
        go_wp2
        go_round
        case rel => exact ⟨k + 1, by omega, by go_num, hn2.out⟩
        case measure => simp [intOf]; omega
    · obtain rfl : k = 64 := by omega
      have hsel := find_none hno
      replace hsel := Lib.hid hsel
      clear hno
      go_wp2
      go_ret2
      refine ⟨?_, (Below.refl _ w).alloc (Nat.le_refl _) _⟩
      unfold nextN
      rw [hsel.out]
      rfl
end Go.Proofs.YtmmhcfbnelggfaaDoor
