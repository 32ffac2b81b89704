/- The mask's methods that count and find. -/
import Derived.Test.YtmmhcfbnelggfaaDoorPos
import Derived.Test.YtmmhcfbnelggfaaDoorBits
namespace Go.Proofs.YtmmhcfbnelggfaaDoor
open Go.RowKit

theorem with_any (a : Nat) (i : Int) (ha : a < 18446744073709551616) (w : World) :
    Calls Tryd.prog 22 #[.int .u64 a, .int .i64 i] w fun e w' => e = .returned (.int .u64 (a ||| bitN i : Nat)) ∧ w' = w := by
  have hl := bitN_lt i
  go_enter Tryd.func22, Tryd.ntmps22
  go_wp2_with (go_at_call 37; refine (bit_any _ _).mono ?_; rintro e w' ⟨rfl, rfl⟩)
  go_ret
  exact ⟨by simp [bits_or_u64_nat _ _ ha hl], rfl⟩
theorem without_any (a : Nat) (i : Int) (ha : a < 18446744073709551616) (w : World) :
    Calls Tryd.prog 24 #[.int .u64 a, .int .i64 i] w fun e w' => e = .returned (.int .u64 (andn a (bitN i) : Nat)) ∧ w' = w := by
  have hl := bitN_lt i
  go_enter Tryd.func24, Tryd.ntmps24
  go_wp2_with (go_at_call 37; refine (bit_any _ _).mono ?_; rintro e w' ⟨rfl, rfl⟩)
  go_ret
  exact ⟨by simp [u64_andNot_nat _ _ ha hl, andn], rfl⟩
theorem ahead_any (i : Int) (w : World) :
    Calls Tryd.prog 40 #[.int .i64 i] w fun e w' => e = .returned (.int .u64 (aheadN i : Nat)) ∧ w' = w := by
  by_cases h : i < 1
  · have hb : aheadN i = 0 := by unfold aheadN; rw [show min i.toNat 64 = 0 by omega]
    rw [hb]
    go_enter Tryd.func40, Tryd.ntmps40
    go_wp2
    go_ret
    exact ⟨rfl, rfl⟩
  · by_cases h2 : 64 ≤ i
    · have hb : aheadN i = 18446744073709551615 := by unfold aheadN; rw [show min i.toNat 64 = 64 by omega]
      rw [hb]
      replace hb := Lib.hid hb
      go_enter Tryd.func40, Tryd.ntmps40
      go_wp2
      go_ret
      exact ⟨rfl, rfl⟩
    · have hb : aheadN i = 2 ^ i.toNat - 1 := by unfold aheadN; rw [show min i.toNat 64 = i.toNat by omega]
      have hl := aheadN_lt i
      have hp := Nat.two_pow_pos i.toNat
      have hw : IntKind.u64.wrap (2 ^ i.toNat) = ((2 ^ i.toNat : Nat) : Int) := by
        rw [IntKind.wrap_u64]
        have e : ((2 ^ i.toNat : Nat) : Int) = (2 : Int) ^ i.toNat := by simp
        have : 2 ^ i.toNat < 2 ^ 64 := Nat.pow_lt_pow_right (by omega) (by omega)
        rw [← e]
        generalize 2 ^ i.toNat = q at *
        omega
      have hw2 : IntKind.u64.wrap (((2 ^ i.toNat : Nat) : Int) - 1) = ((aheadN i : Nat) : Int) := by
        rw [hb, IntKind.wrap_u64]
        rw [hb] at hl
        generalize 2 ^ i.toNat = q at *
        omega
      replace hw := Lib.hid hw
      replace hw2 := Lib.hid hw2
      replace hb := Lib.hid hb
      have h' : i < 64 := by omega
      have h'' : 1 ≤ i := by omega
      clear hl hp
      go_enter Tryd.func40, Tryd.ntmps40
      go_wp2
      go_ret
      exact ⟨by simp [hw.out, ← hw2.out], rfl⟩
theorem not_any (a : Nat) (i : Int) (ha : a < 18446744073709551616) (w : World) :
    Calls Tryd.prog 25 #[.int .u64 a, .int .i64 i] w fun e w' => e = .returned (.int .u64 (andn (aheadN i) a : Nat)) ∧ w' = w := by
  have hl := aheadN_lt i
  go_enter Tryd.func25, Tryd.ntmps25
  go_wp2_with (go_at_call 40; refine (ahead_any _ _).mono ?_; rintro e w' ⟨rfl, rfl⟩)
  go_ret
  exact ⟨by simp [u64_andNot_nat _ _ hl ha, andn], rfl⟩
theorem count_any (a : Nat) (ha : a < 18446744073709551616) (w : World) :
    Calls Tryd.prog 29 #[.int .u64 a] w fun e w' => e = .returned (.int .i64 (cnt a : Nat)) ∧ w' = w := by
  go_enter Tryd.func29, Tryd.ntmps29
  go_wp2_with (go_at_call 41; refine (ones_any _ ha _).mono ?_; rintro e w' ⟨rfl, rfl⟩)
  go_ret
  exact ⟨rfl, rfl⟩
theorem rank_any (a : Nat) (i : Int) (ha : a < 18446744073709551616) (w : World) :
    Calls Tryd.prog 27 #[.int .u64 a, .int .i64 i] w fun e w' => e = .returned (.int .i64 (rankTo a.testBit (min i.toNat 64) : Nat)) ∧ w' = w := by
  have hl := aheadN_lt i
  have hx := and_lt (aheadN i) ha
  have hc := cnt_ahead a i
  have hC : ∀ w, Calls Tryd.prog 29 #[.int .u64 (bits BinOp.and IntKind.u64 (a : Int) (aheadN i : Nat))] w fun e w' => e = .returned (.int .i64 (rankTo a.testBit (min i.toNat 64) : Nat)) ∧ w' = w := fun w => by
    rw [bits_and_u64_nat _ _ ha hl, ← hc]; exact count_any _ hx w
  generalize rankTo a.testBit (min i.toNat 64) = r at *
  replace hC := Lib.hid hC
  clear hc hx
  go_enter Tryd.func27, Tryd.ntmps27
  go_wp2_with (first | (go_at_call 40; refine (ahead_any _ _).mono ?_; rintro e w' ⟨rfl, rfl⟩) | (go_at_call 29; refine (hC.out _).mono ?_; rintro e w' ⟨rfl, rfl⟩))
  go_ret
  exact ⟨rfl, rfl⟩
theorem first_zero (w : World) :
    Calls Tryd.prog 39 #[.int .u64 0] w fun e w' => e = .returned (.tuple #[.int .i64 0, .bool false]) ∧ w' = w := by
  go_enter Tryd.func39, Tryd.ntmps39
  go_wp2
  go_ret2
  exact ⟨rfl, rfl⟩
theorem first_low (a : Nat) (ha : a < 18446744073709551616) (h0 : a ≠ 0) (w : World) (hT : Tab w) :
    Calls Tryd.prog 39 #[.int .u64 a] w fun e w' => e = .returned (.tuple #[.int .i64 (Lib.ctz 64 a : Nat), .bool true]) ∧ w' = w := by
  have hz : ((a : Int) == 0) = false := by simp; omega
  have hC := tz_any a ha h0 w hT
  generalize Lib.ctz 64 a = r at *
  replace hC := Lib.hid hC
  clear hT h0
  go_enter Tryd.func39, Tryd.ntmps39
  go_wp2_with (go_at_call 43; refine (hC.out).mono ?_; rintro e w' ⟨rfl, rfl⟩)
  go_ret2
  exact ⟨rfl, rfl⟩
/-- The lowest number of any word. -/
theorem first_any (a : Nat) (ha : a < 18446744073709551616) (w : World) (hT : Tab w) :
    Calls Tryd.prog 39 #[.int .u64 a] w fun e w' => e = .returned (told (nextN a.testBit (-1))) ∧ w' = w := by
  by_cases h0 : a = 0
  · subst h0
    rw [nextN_none (fun l _ _ => Nat.zero_testBit l)]
    exact first_zero w
  · rw [next_low a h0 ha (-1) (by omega)]
    exact first_low a ha h0 w hT
theorem next_none (a : Nat) (i : Int) (h : 64 ≤ i) (w : World) :
    Calls Tryd.prog 18 #[.int .u64 a, .int .i64 i] w fun e w' => e = .returned (.tuple #[.int .i64 0, .bool false]) ∧ w' = w := by
  go_enter Tryd.func18, Tryd.ntmps18
  go_wp2
  go_ret2
  exact ⟨rfl, rfl⟩
/-- The next number behind i. -/
theorem next_any (a : Nat) (i : Int) (ha : a < 18446744073709551616) (hi : -9223372036854775808 ≤ i) (w : World) (hT : Tab w) :
    Calls Tryd.prog 18 #[.int .u64 a, .int .i64 i] w fun e w' => e = .returned (told (nextN a.testBit i)) ∧ w' = w := by
  by_cases h : 64 ≤ i
  · rw [nextN_none (fun l h1 h2 => by omega)]
    exact next_none a i h w
  · have h' : i < 64 := by omega
    have hl := aheadN_lt (i + 1)
    have e : nextN (andn a (aheadN (i + 1))).testBit (-1) = nextN a.testBit i := by
      have hb : ∀ l, (andn a (aheadN (i + 1))).testBit l = (a.testBit l && !decide (l < min (i + 1).toNat 64)) := fun l => by rw [andn_bit ha hl, aheadN_bit]
      rcases next_cases a.testBit i with h1 | ⟨j, h3, h4, h5, h6⟩
      · rw [nextN_none h1, nextN_none]
        intro l _ hl2
        rw [hb]
        by_cases h2 : i < (l : Int)
        · rw [h1 l h2 hl2]; rfl
        · simp; intro _; omega
      · rw [nextN_some h3 h4 h5 h6, nextN_some h3 (by rw [hb, h4]; simp; omega) (by omega)]
        intro l _ hl2
        rw [hb]
        by_cases h2 : i < (l : Int)
        · rw [h6 l h2 hl2]; rfl
        · simp; intro _; omega
    have hF : Calls Tryd.prog 39 #[.int .u64 (bits BinOp.andNot IntKind.u64 (a : Int) (aheadN (i + 1) : Nat))] w fun e w' => e = .returned (told (nextN a.testBit i)) ∧ w' = w := by
      rw [u64_andNot_nat _ _ ha hl, ← e]
      exact first_any _ (andn_lt _ ha) w hT
    unfold told at hF ⊢
    generalize ((nextN a.testBit i).getD 0 : Nat) = r at *
    generalize (nextN a.testBit i).isSome = b at *
    replace hF := Lib.hid hF
    clear hT e hl h
    go_enter Tryd.func18, Tryd.ntmps18
    go_wp2_with (first | (go_at_call 40; refine (ahead_any _ _).mono ?_; rintro e w' ⟨rfl, rfl⟩) | (go_at_call 39; refine (hF.out).mono ?_; rintro e w' ⟨rfl, rfl⟩))
    go_ret2
    exact ⟨rfl, rfl⟩
theorem select_neg (a : Nat) (k : Int) (h : k < 0) (w : World) :
    Calls Tryd.prog 16 #[.int .u64 a, .int .i64 k] w fun e w' => e = .returned (.tuple #[.int .i64 0, .bool false]) ∧ w' = w := by
  go_enter Tryd.func16, Tryd.ntmps16
  go_wp2
  go_ret2
  exact ⟨rfl, rfl⟩
theorem select_high (a : Nat) (k : Int) (c : Nat) (ha : a < 18446744073709551616) (h0 : 0 ≤ k) (hc : cnt a = c) (h : (c : Int) ≤ k) (w : World) :
    Calls Tryd.prog 16 #[.int .u64 a, .int .i64 k] w fun e w' => e = .returned (.tuple #[.int .i64 0, .bool false]) ∧ w' = w := by
  have hC := count_any a ha
  rw [hc] at hC
  clear hc
  replace hC := Lib.hid hC
  go_enter Tryd.func16, Tryd.ntmps16
  go_wp2_with (go_at_call 29; refine (hC.out _).mono ?_; rintro e w' ⟨rfl, rfl⟩)
  go_ret2
  exact ⟨rfl, rfl⟩
set_option maxHeartbeats 400000 in
theorem select_yes (a : Nat) (k c j : Nat) (ha : a < 18446744073709551616) (hc : cnt a = c) (hk : k < c) (hc64 : c ≤ 64) (hj : a.testBit j = true) (hr : rankTo a.testBit j = k) (w : World) (hT : Tab w) :
    Calls Tryd.prog 16 #[.int .u64 a, .int .i64 k] w fun e w' => e = .returned (.tuple #[.int .i64 j, .bool true]) ∧ w' = w := by
  have hC := count_any a ha
  rw [hc] at hC
  clear hc
  replace hC := Lib.hid hC
  replace hT := Lib.hid hT
  replace hj := Lib.hid hj
  replace hr := Lib.hid hr
  go_enter Tryd.func16, Tryd.ntmps16
  go_wp2_with (go_at_call 29; refine (hC.out _).mono ?_; rintro e w' ⟨rfl, rfl⟩)
  go_loop [0, 1] (fun m q => ∃ m' q' : Nat, m = .int .u64 m' ∧ q = .int .i64 q' ∧ m' < 18446744073709551616 ∧ q' ≤ 64 ∧ m'.testBit j = true ∧ rankTo m'.testBit j = q')
    (fun _ q => (intOf q).toNat)
  case atStart => exact ⟨a, k, rfl, rfl, ha, by omega, hj.out, hr.out⟩
  case round =>
    obtain ⟨m', q', rfl, rfl, hm, hq, hj', hr'⟩ := hrel
    have h0 : m' ≠ 0 := fun e => by subst e; rw [Nat.zero_testBit] at hj'; cases hj'
    by_cases hz : 0 < q'
    · obtain ⟨q, rfl⟩ : ∃ q, q' = q + 1 := ⟨q' - 1, by omega⟩
      have hs := sel_step m' h0 hm hj' hr'
      have hlt := and_pred_lt m' hm
      have e : bits BinOp.and IntKind.u64 (m' : Int) ((m' : Int) - 1) = ((m' &&& (m' - 1) : Nat) : Int) := by
        rw [← bits_and_u64_nat _ _ hm (by omega)]; congr 1; omega
      have h1 : (1 : Int) ≤ (m' : Int) := by omega
      replace hs := Lib.hid hs
      replace h0 := Lib.hid h0
      replace hj' := Lib.hid hj'
      replace hr' := Lib.hid hr'
      generalize m' &&& (m' - 1) = m2 at *
      go_wp2
      go_round
      case rel => exact ⟨m2, q, rfl, by go_num, hlt, by omega, hs.out.1, hs.out.2⟩
      case measure => simp [intOf]
    · have hq0 : q' = 0 := by omega
      subst hq0
      have hF := first_low m' hm h0 _ hT.out
      rw [← sel_low m' h0 hm hj' hr'] at hF
      replace hF := Lib.hid hF
      clear h0 hj' hr'
      go_wp2_with (go_at_call 39; refine (hF.out).mono ?_; rintro e w' ⟨rfl, rfl⟩)
      go_ret2
      exact ⟨rfl, rfl⟩
/-- The number at place k. -/
theorem select_any (a : Nat) (k : Int) (ha : a < 18446744073709551616) (w : World) (hT : Tab w) :
    Calls Tryd.prog 16 #[.int .u64 a, .int .i64 k] w fun e w' => e = .returned (told (selN a.testBit k)) ∧ w' = w := by
  rcases sel_cases a.testBit k with h | ⟨j, h1, h2, h3⟩
  · rw [selN_none h]
    rcases Int.lt_or_le k 0 with h0 | h0
    · exact select_neg a k h0 w
    · exact select_high a k _ ha h0 rfl (by rcases h with h | h; omega; exact h) w
  · rw [selN_some h1 h2 h3]
    have hc : rankTo a.testBit j < rankTo a.testBit 64 := rankTo_lt _ h1 h2
    obtain ⟨q, rfl⟩ : ∃ q : Nat, k = (q : Int) := ⟨k.toNat, by omega⟩
    exact select_yes a q _ j ha rfl (by show q < rankTo a.testBit 64; omega) (rankTo_le _ _) h2 (by omega) w hT
end Go.Proofs.YtmmhcfbnelggfaaDoor
