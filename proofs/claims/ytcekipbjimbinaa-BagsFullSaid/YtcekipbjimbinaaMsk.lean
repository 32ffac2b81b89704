/- The mask's With, Without, and Of of one number. -/
import Derived.Test.YtcekipbjimbinaaKit
import Derived.Deep.QuietTactic
import Derived.BigQuiet
import Derived.LoopTactic
import Derived.OpenShut
namespace Go.Proofs.Ytcekipbjimbinaa
open Go.RowKit

/-- The mask of one number. -/
def bitN (i : Int) : Nat := if 0 ≤ i ∧ i < 64 then 2 ^ i.toNat else 0
theorem bitN_lt (i : Int) : bitN i < 18446744073709551616 := by
  unfold bitN
  split
  · exact Nat.pow_lt_pow_right (by omega) (show i.toNat < 64 by omega)
  · omega
/-- What is in the first alone. -/
def andn (a b : Nat) : Nat := a &&& (18446744073709551615 - b)
theorem andn_lt {a : Nat} (b : Nat) (ha : a < 18446744073709551616) : andn a b < 18446744073709551616 := Nat.lt_of_le_of_lt Nat.and_le_left ha
theorem and_lt {a : Nat} (b : Nat) (ha : a < 18446744073709551616) : a &&& b < 18446744073709551616 := Nat.lt_of_le_of_lt Nat.and_le_left ha
theorem or_lt {a b : Nat} (ha : a < 18446744073709551616) (hb : b < 18446744073709551616) : a ||| b < 18446744073709551616 := Nat.or_lt_two_pow (n := 64) ha hb

theorem bit_any (i : Int) (w : World) :
    Calls Try.prog 26 #[.int .i64 i] w fun e w' => e = .returned (.int .u64 (bitN i : Nat)) ∧ w' = w := by
  by_cases h : i < 0
  · have hb : bitN i = 0 := by unfold bitN; rw [if_neg (by omega)]
    rw [hb]
    go_enter Try.func26, Try.ntmps26
    go_wp2
    go_ret
    exact ⟨rfl, rfl⟩
  · by_cases h2 : 64 ≤ i
    · have hb : bitN i = 0 := by unfold bitN; rw [if_neg (by omega)]
      rw [hb]
      go_enter Try.func26, Try.ntmps26
      go_wp2
      go_ret
      exact ⟨rfl, rfl⟩
    · have hb : bitN i = 2 ^ i.toNat := by unfold bitN; rw [if_pos (by omega)]
      have hl := bitN_lt i
      rw [hb] at hl ⊢
      have hw : IntKind.u64.wrap (2 ^ i.toNat) = ((2 ^ i.toNat : Nat) : Int) := by
        rw [IntKind.wrap_u64]
        have : ((2 ^ i.toNat : Nat) : Int) = (2 : Int) ^ i.toNat := by simp
        rw [← this]
        generalize 2 ^ i.toNat = q at *
        omega
      replace hw := Lib.hid hw
      have h' : i < 64 := by omega
      have h'' : 0 ≤ i := by omega
      clear hb hl
      go_enter Try.func26, Try.ntmps26
      go_wp2
      go_ret
      exact ⟨by simp [hw.out], rfl⟩

theorem with_any (a : Nat) (i : Int) (ha : a < 18446744073709551616) (w : World) :
    Calls Try.prog 17 #[.int .u64 a, .int .i64 i] w fun e w' => e = .returned (.int .u64 (a ||| bitN i : Nat)) ∧ w' = w := by
  have hb := Lib.hid (bit_any i w)
  have hl := bitN_lt i
  generalize bitN i = q at *
  go_enter Try.func17, Try.ntmps17
  go_wp2_with fail
  refine hb.out.mono ?_
  rintro e w' ⟨rfl, rfl⟩
  go_wp2_with fail
  go_ret
  exact ⟨by simp [bits_or_u64_nat _ _ ha hl], rfl⟩
theorem without_any (a : Nat) (i : Int) (_ha : a < 18446744073709551616) (w : World) :
    Calls Try.prog 24 #[.int .u64 a, .int .i64 i] w fun e w' => (∃ m : Nat, m < 18446744073709551616 ∧ e = .returned (.int .u64 m)) ∧ w' = w := by
  have hb := Lib.hid (bit_any i w)
  generalize bitN i = q at *
  go_enter Try.func24, Try.ntmps24
  go_wp2_with fail
  refine hb.out.mono ?_
  rintro e w' ⟨rfl, rfl⟩
  go_wp2_with fail
  go_ret
  obtain ⟨m, e, hm⟩ := open_u64 (wf_bits .andNot .u64 (a : Int) (q : Int))
  exact ⟨⟨m, hm, by simp [e]⟩, rfl⟩
theorem of_one (g : Nat) (w : World) (hc : w.cell? ⟨g, 0, none⟩ = some (.int .i64 1)) :
    Calls Try.prog 10 #[.slice (some ⟨g, 0, none⟩) 1 1] w fun e w' => e = .returned (.tuple #[.int .u64 2, .int .i64 0]) ∧ ∃ q, w' = w.drewN q := by
  have hb := Lib.hid (bit_any 1 w)
  rw [show bitN 1 = 2 by decide] at hb
  go_enter Try.func10, Try.ntmps10
  go_wp2_with fail
  go_loopw [4, 10] (fun v4 v10 wr => (v4 = .int .u64 0 ∧ v10 = .int .i64 0 ∧ wr = w) ∨ (v4 = .int .u64 2 ∧ v10 = .int .i64 1 ∧ ∃ q, wr = w.drewN q)) (fun _ v10 _ => 1 - (intOf v10).toNat)
  case atStart => exact .inl ⟨rfl, rfl, rfl⟩
  case round =>
    rcases hrel with ⟨rfl, rfl, rfl⟩ | ⟨rfl, rfl, q, rfl⟩
    · go_wp2_with fail
      refine hb.out.mono ?_
      rintro e w2 ⟨rfl, rfl⟩
      go_wp2_with fail
      exact ⟨.inr ⟨by kernel_rfl, rfl, 0, rfl⟩, by simp [intOf]⟩
    · go_wp2_with fail
      go_ret2
      exact ⟨rfl, q, rfl⟩
end Go.Proofs.Ytcekipbjimbinaa
