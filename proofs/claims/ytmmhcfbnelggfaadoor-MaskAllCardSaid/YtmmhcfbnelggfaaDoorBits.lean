/- math/bits: OnesCount64 and TrailingZeros64. -/
import Derived.Test.YtmmhcfbnelggfaaDoorPop
import Derived.Test.YtmmhcfbnelggfaaDoorKit
import Derived.Laws.Bits64b
import Derived.Laws.Bits128
import Derived.Lib.TrailingZeros
namespace Go.Proofs.YtmmhcfbnelggfaaDoor
open Go.RowKit

/-- The table of TrailingZeros64 lies in its variable. -/
def Tab (w : World) : Prop := ∀ j, j < 64 → w.cell? ⟨0, j, none⟩ = some (.int .u8 (Lib.deBruijn64tab.getD j 0 : Nat))
theorem Tab.lt {w : World} (h : Tab w) : 0 < w.heap.size := block_lt_of_cell (h 0 (by omega))
theorem Tab.below {B : Nat} {w w' : World} (h : Tab w) (hB : Below B w w') (hb : 0 < B) : Tab w' := fun j hj => (hB.cell (p := ⟨0, j, none⟩) hb).trans (h j hj)
theorem Tab.belowAll {w w' : World} (h : Tab w) (hB : Below w.heap.size w w') : Tab w' := h.below hB h.lt
theorem Tab.alloc {w : World} (h : Tab w) (o : Obj) : Tab (w.alloc o) := h.belowAll ((Below.refl _ w).alloc (Nat.le_refl _) _)
theorem Tab.drewN {w : World} (h : Tab w) (n : Nat) : Tab (w.drewN n) := h
theorem Tab.drew {w : World} (h : Tab w) : Tab w.drew := h

set_option maxHeartbeats 1000000 in
theorem tz_core (x k idx : Nat) (w : World) (hx0 : ((x : Int) == 0) = false)
    (key : IntKind.u64.wrap (bits BinOp.and IntKind.u64 (x : Int) (IntKind.u64.wrap (-(x : Int))) * 285870213051353865) / 288230376151711744 = (idx : Int))
    (hi : idx < 64) (hk : k < 64) (hcell : w.cell? ⟨0, idx, none⟩ = some (.int .u8 k)) :
    Calls Tryd.prog 43 #[.int .u64 x] w fun e w' => e = .returned (.int .i64 k) ∧ w' = w := by
  go_enter Tryd.func43, Tryd.ntmps43
  go_wp2_with (simp only [key])
  go_ret
  exact ⟨rfl, rfl⟩
theorem tz_key (x a : Nat) (hx : x < 18446744073709551616) (hx0 : x ≠ 0) (hlow : x &&& (18446744073709551616 - x) = a) :
    IntKind.u64.wrap (bits BinOp.and IntKind.u64 (x : Int) (IntKind.u64.wrap (-(x : Int))) * 285870213051353865) / 288230376151711744 = ((a * 285870213051353865 % 18446744073709551616 / 288230376151711744 : Nat) : Int) := by
  have e1 : IntKind.u64.wrap (-(x : Int)) = ((18446744073709551616 - x : Nat) : Int) := by rw [IntKind.wrap_u64]; omega
  rw [e1, bits_and_u64_nat x _ hx (by omega), hlow, IntKind.wrap_u64]
  omega
/-- The lowest number of a word that is not empty. -/
theorem tz_any (x : Nat) (hx : x < 18446744073709551616) (hx0 : x ≠ 0) (w : World) (hT : Tab w) :
    Calls Tryd.prog 43 #[.int .u64 x] w fun e w' => e = .returned (.int .i64 (Lib.ctz 64 x : Nat)) ∧ w' = w := by
  obtain ⟨hlow, hk⟩ := Lib.lowest_bit 64 x hx0 hx
  obtain ⟨hi, htab⟩ := Lib.deBruijn64_at _ hk
  refine tz_core x (Lib.ctz 64 x) _ w (by simp; omega) (tz_key x _ hx hx0 hlow) hi hk ?_
  have h := hT _ hi
  rw [htab] at h
  exact h

set_option maxHeartbeats 1000000 in
theorem ones_core (x y1 y2 y3 y4 y5 y6 c : Nat) (w : World)
    (k1 : IntKind.u64.wrap (bits BinOp.and IntKind.u64 ((x : Int) / 2) 6148914691236517205 + bits BinOp.and IntKind.u64 (x : Int) 6148914691236517205) = (y1 : Int))
    (k2 : IntKind.u64.wrap (bits BinOp.and IntKind.u64 ((y1 : Int) / 4) 3689348814741910323 + bits BinOp.and IntKind.u64 (y1 : Int) 3689348814741910323) = (y2 : Int))
    (k3 : bits BinOp.and IntKind.u64 (IntKind.u64.wrap ((y2 : Int) / 16 + (y2 : Int))) 1085102592571150095 = (y3 : Int))
    (k4 : IntKind.u64.wrap ((y3 : Int) + (y3 : Int) / 256) = (y4 : Int)) (k5 : IntKind.u64.wrap ((y4 : Int) + (y4 : Int) / 65536) = (y5 : Int)) (k6 : IntKind.u64.wrap ((y5 : Int) + (y5 : Int) / 4294967296) = (y6 : Int))
    (k7 : wrap64 (y6 : Int) = (y6 : Int)) (k8 : bits BinOp.and IntKind.i64 (y6 : Int) 127 = (c : Int)) :
    Calls Tryd.prog 41 #[.int .u64 x] w fun e w' => e = .returned (.int .i64 c) ∧ w' = w := by
  go_enter Tryd.func41, Tryd.ntmps41
  go_wp2
  go_ret
  exact ⟨rfl, rfl⟩
theorem wrap_part (a k : Nat) (h : a < 700000000000000000) : IntKind.u64.wrap ((a : Int) + (a : Int) / (k : Int)) = ((a + a / k : Nat) : Int) := by
  have h1 : a / k ≤ a := Nat.div_le_self _ _
  have h2 : (a : Int) / (k : Int) = ((a / k : Nat) : Int) := by simp
  rw [h2, IntKind.wrap_u64]
  generalize a / k = b at *
  omega
theorem and_u64_num (a n : Nat) (ha : a < 18446744073709551616) (hn : n < 18446744073709551616) : bits BinOp.and IntKind.u64 (a : Int) (n : Int) = ((a &&& n : Nat) : Int) := bits_and_u64_nat a n ha hn
/-- How many numbers a word has. -/
theorem ones_any (x : Nat) (hx : x < 18446744073709551616) (w : World) :
    Calls Tryd.prog 41 #[.int .u64 x] w fun e w' => e = .returned (.int .i64 (cnt x : Nat)) ∧ w' = w := by
  obtain ⟨hb, hc⟩ := ones_cnt x
  have b1 : one 6148914691236517205 x < 18446744073709551616 := by
    have h1 : x / 2 &&& 6148914691236517205 ≤ 6148914691236517205 := Nat.and_le_right
    have h2 : x &&& 6148914691236517205 ≤ 6148914691236517205 := Nat.and_le_right
    unfold one; omega
  have b2 : sum2 3689348814741910323 (one 6148914691236517205 x) ≤ 7378697629483820646 := by
    have h1 : one 6148914691236517205 x / 4 &&& 3689348814741910323 ≤ 3689348814741910323 := Nat.and_le_right
    have h2 : one 6148914691236517205 x &&& 3689348814741910323 ≤ 3689348814741910323 := Nat.and_le_right
    unfold sum2; omega
  have e1 : IntKind.u64.wrap (bits BinOp.and IntKind.u64 ((x : Int) / 2) 6148914691236517205 + bits BinOp.and IntKind.u64 (x : Int) 6148914691236517205) = ((one 6148914691236517205 x : Nat) : Int) := by
    have h1 := and_u64_num (x / 2) 6148914691236517205 (by omega) (by omega)
    have h2 := and_u64_num x 6148914691236517205 hx (by omega)
    rw [show ((x : Int) / 2) = ((x / 2 : Nat) : Int) by omega]
    rw [show (6148914691236517205 : Int) = ((6148914691236517205 : Nat) : Int) from rfl, h1, h2, IntKind.wrap_u64]
    unfold one at b1 ⊢; omega
  generalize hy1 : one 6148914691236517205 x = y1 at *
  have e2 : IntKind.u64.wrap (bits BinOp.and IntKind.u64 ((y1 : Int) / 4) 3689348814741910323 + bits BinOp.and IntKind.u64 (y1 : Int) 3689348814741910323) = ((sum2 3689348814741910323 y1 : Nat) : Int) := by
    have h1 := and_u64_num (y1 / 4) 3689348814741910323 (by omega) (by omega)
    have h2 := and_u64_num y1 3689348814741910323 b1 (by omega)
    rw [show ((y1 : Int) / 4) = ((y1 / 4 : Nat) : Int) by omega]
    rw [show (3689348814741910323 : Int) = ((3689348814741910323 : Nat) : Int) from rfl, h1, h2, IntKind.wrap_u64]
    unfold sum2 at b2 ⊢; omega
  have ho : ones x = sum4 1085102592571150095 (sum2 3689348814741910323 y1) := by rw [← hy1]; rfl
  generalize hy2 : sum2 3689348814741910323 y1 = y2 at *
  have e3 : bits BinOp.and IntKind.u64 (IntKind.u64.wrap ((y2 : Int) / 16 + (y2 : Int))) 1085102592571150095 = ((ones x : Nat) : Int) := by
    have hw : IntKind.u64.wrap ((y2 : Int) / 16 + (y2 : Int)) = ((y2 / 16 + y2 : Nat) : Int) := by rw [IntKind.wrap_u64]; omega
    have h1 := and_u64_num (y2 / 16 + y2) 1085102592571150095 (by omega) (by omega)
    rw [hw, ho]
    exact h1
  generalize ones x = y3 at *
  have e8 : bits BinOp.and IntKind.i64 ((y3 + y3 / 256 + (y3 + y3 / 256) / 65536 + (y3 + y3 / 256 + (y3 + y3 / 256) / 65536) / 4294967296 : Nat) : Int) 127 = ((cnt x : Nat) : Int) := by
    rw [← hc]
    generalize hz : y3 + y3 / 256 + (y3 + y3 / 256) / 65536 + (y3 + y3 / 256 + (y3 + y3 / 256) / 65536) / 4294967296 = z
    have hz' : z < 9223372036854775808 := by omega
    clear hz hc
    have h1 : z &&& 127 = z % 128 := Nat.and_two_pow_sub_one_eq_mod z 7
    rw [← h1]
    rw [h1, i64_and127]; omega
  refine ones_core x y1 y2 y3 (y3 + y3 / 256) (y3 + y3 / 256 + (y3 + y3 / 256) / 65536) _ _ w e1 e2 e3 ?_ ?_ ?_ ?_ e8
  · exact wrap_part y3 256 (by omega)
  · exact wrap_part _ 65536 (by omega)
  · exact wrap_part _ 4294967296 (by omega)
  · have : y3 + y3 / 256 + (y3 + y3 / 256) / 65536 + (y3 + y3 / 256 + (y3 + y3 / 256) / 65536) / 4294967296 < 9223372036854775808 := by omega
    generalize y3 + y3 / 256 + (y3 + y3 / 256) / 65536 + (y3 + y3 / 256 + (y3 + y3 / 256) / 65536) / 4294967296 = z at *
    unfold wrap64; omega
end Go.Proofs.YtmmhcfbnelggfaaDoor
