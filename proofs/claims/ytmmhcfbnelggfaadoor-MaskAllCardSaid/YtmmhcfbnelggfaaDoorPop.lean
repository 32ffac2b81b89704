/- Plain lemmas: the count of a word's bits, by adding fields side by side. -/
import Derived.Test.YtmmhcfbnelggfaaDoorSub
namespace Go.Proofs.YtmmhcfbnelggfaaDoor
open Go.RowKit

theorem and_fields {k a b c d : Nat} (ha : a < 2 ^ k) (hc : c < 2 ^ k) : (2 ^ k * b + a) &&& (2 ^ k * d + c) = 2 ^ k * (b &&& d) + (a &&& c) := by
  apply Nat.eq_of_testBit_eq
  intro i
  rw [Nat.testBit_and, Nat.testBit_two_pow_mul_add _ ha, Nat.testBit_two_pow_mul_add _ hc, Nat.testBit_two_pow_mul_add _ (Nat.lt_of_le_of_lt Nat.and_le_left ha)]
  split <;> rw [Nat.testBit_and]
theorem and_bytes {a b c d : Nat} (ha : a < 256) (hc : c < 256) : (256 * b + a) &&& (256 * d + c) = 256 * (b &&& d) + (a &&& c) := and_fields (k := 8) ha hc

theorem rankTo_add (f : Nat → Bool) (a n : Nat) : rankTo f (a + n) = rankTo f a + rankTo (fun i => f (a + i)) n := by
  induction n with
  | zero => simp [rankTo]
  | succ n ih => rw [← Nat.add_assoc, rankTo, ih, rankTo]; omega
theorem rankTo_congr {f g : Nat → Bool} {n : Nat} (h : ∀ i, i < n → f i = g i) : rankTo f n = rankTo g n := by
  induction n with
  | zero => rfl
  | succ n ih => rw [rankTo, rankTo, ih (fun i hi => h i (by omega)), h n (by omega)]
/-- How many bits a byte has. -/
def pop8 (d : Nat) : Nat := rankTo d.testBit 8
theorem rankTo_byte (d x n : Nat) (hd : d < 256) : rankTo (256 * x + d).testBit (8 + n) = pop8 d + rankTo x.testBit n := by
  have hb : ∀ i, (256 * x + d).testBit i = if i < 8 then d.testBit i else x.testBit (i - 8) := fun i => Nat.testBit_two_pow_mul_add (i := 8) x hd i
  rw [rankTo_add, pop8]
  congr 1
  · exact rankTo_congr fun i hi => by rw [hb, if_pos hi]
  · exact rankTo_congr fun i hi => by
      show (256 * x + d).testBit (8 + i) = _
      rw [hb, if_neg (by omega)]; congr 1; omega

def one (a x : Nat) : Nat := (x / 2 &&& a) + (x &&& a)
def sum2 (b y : Nat) : Nat := (y / 4 &&& b) + (y &&& b)
def sum4 (c z : Nat) : Nat := (z / 16 + z) &&& c
theorem byte1 : ∀ d, d < 256 → ∀ e, e < 2 → (d / 2 + 128 * e) &&& 85 = d / 2 &&& 85 := by decide +kernel
theorem byte1_lt : ∀ d, d < 256 → one 85 d < 256 := by decide +kernel
theorem byte2 : ∀ d, d < 256 → ∀ e, e < 4 → (one 85 d / 4 + 64 * e) &&& 51 = one 85 d / 4 &&& 51 := by decide +kernel
theorem byte2_lt : ∀ d, d < 256 → sum2 51 (one 85 d) < 256 ∧ sum2 51 (one 85 d) % 16 ≤ 4 ∧ sum2 51 (one 85 d) / 16 ≤ 4 := by decide +kernel
theorem byte4 : ∀ d, d < 256 → ∀ e, e ≤ 4 → sum2 51 (one 85 d) / 16 + 16 * e + sum2 51 (one 85 d) < 256 ∧ (sum2 51 (one 85 d) / 16 + 16 * e + sum2 51 (one 85 d)) &&& 15 = pop8 d := by decide +kernel
theorem pop8_le : ∀ d, d < 256 → pop8 d ≤ 8 := by decide +kernel

theorem one_step (a x d : Nat) (hd : d < 256) : one (256 * a + 85) (256 * x + d) = 256 * one a x + one 85 d := by
  have e : (256 * x + d) / 2 = 256 * (x / 2) + (d / 2 + 128 * (x % 2)) := by omega
  have hb := byte1 d hd (x % 2) (Nat.mod_lt _ (by omega))
  unfold one
  rw [e, and_bytes (by omega) (by omega), and_bytes hd (by omega), hb]
  omega
theorem sum2_step (b y d : Nat) (hd : d < 256) : sum2 (256 * b + 51) (256 * y + one 85 d) = 256 * sum2 b y + sum2 51 (one 85 d) := by
  have h1 := byte1_lt d hd
  have e : (256 * y + one 85 d) / 4 = 256 * (y / 4) + (one 85 d / 4 + 64 * (y % 4)) := by omega
  have hb := byte2 d hd (y % 4) (Nat.mod_lt _ (by omega))
  unfold sum2
  rw [e, and_bytes (by omega) (by omega), and_bytes h1 (by omega), hb]
  omega
theorem sum4_step (c z d : Nat) (hd : d < 256) (hz : z % 16 ≤ 4) : sum4 (256 * c + 15) (256 * z + sum2 51 (one 85 d)) = 256 * sum4 c z + pop8 d := by
  have ⟨h1, _, _⟩ := byte2_lt d hd
  have ⟨h4, h5⟩ := byte4 d hd (z % 16) hz
  unfold sum4
  have e : (256 * z + sum2 51 (one 85 d)) / 16 + (256 * z + sum2 51 (one 85 d)) = 256 * (z / 16 + z) + (sum2 51 (one 85 d) / 16 + 16 * (z % 16) + sum2 51 (one 85 d)) := by omega
  rw [e, and_bytes h4 (by omega), h5]

/-- The masks of n bytes, and what the three steps make of n bytes. -/
def rep (b : Nat) : Nat → Nat
  | 0 => 0
  | n + 1 => 256 * rep b n + b
/-- A number's bytes, each counted. -/
def pops : Nat → Nat → Nat
  | 0, _ => 0
  | n + 1, x => 256 * pops n (x / 256) + pop8 (x % 256)
def folded (n x : Nat) : Nat := sum2 (rep 51 n) (one (rep 85 n) x)
theorem folded_mod (n x : Nat) : folded (n + 1) x = 256 * folded n (x / 256) + sum2 51 (one 85 (x % 256)) := by
  have hd : x % 256 < 256 := Nat.mod_lt _ (by omega)
  show sum2 (256 * rep 51 n + 51) (one (256 * rep 85 n + 85) x) = _
  have e : x = 256 * (x / 256) + x % 256 := by omega
  rw [show one (256 * rep 85 n + 85) x = one (256 * rep 85 n + 85) (256 * (x / 256) + x % 256) by rw [← e], one_step _ _ _ hd, sum2_step _ _ _ hd]
  rfl
theorem folded_low (n x : Nat) : folded n x % 16 ≤ 4 := by
  cases n with
  | zero => simp [folded, rep, sum2, one]
  | succ n =>
    rw [folded_mod]
    have ⟨_, h, _⟩ := byte2_lt (x % 256) (Nat.mod_lt _ (by omega))
    omega
theorem folded_pops (n x : Nat) : sum4 (rep 15 n) (folded n x) = pops n x := by
  induction n generalizing x with
  | zero => simp [rep, sum4, pops]
  | succ n ih =>
    rw [folded_mod]
    show sum4 (256 * rep 15 n + 15) _ = _
    rw [sum4_step _ _ _ (Nat.mod_lt _ (by omega)) (folded_low n _), ih, pops]
theorem rankTo_bytes (n x : Nat) : rankTo x.testBit (8 * (n + 1)) = pop8 (x % 256) + rankTo (x / 256).testBit (8 * n) := by
  have h := rankTo_byte (x % 256) (x / 256) (8 * n) (Nat.mod_lt _ (by omega))
  rw [show 256 * (x / 256) + x % 256 = x by omega] at h
  rw [show 8 * (n + 1) = 8 + 8 * n by omega, h]

/-- The last steps: eight counted bytes are added up. -/
theorem adds_up (p0 p1 p2 p3 p4 p5 p6 p7 y : Nat) (h0 : p0 ≤ 8) (h1 : p1 ≤ 8) (h2 : p2 ≤ 8) (h3 : p3 ≤ 8) (h4 : p4 ≤ 8) (h5 : p5 ≤ 8) (h6 : p6 ≤ 8) (h7 : p7 ≤ 8)
    (hy : y = 256 * (256 * (256 * (256 * (256 * (256 * (256 * p7 + p6) + p5) + p4) + p3) + p2) + p1) + p0) :
    y < 650000000000000000 ∧ (y + y / 256 + (y + y / 256) / 65536 + (y + y / 256 + (y + y / 256) / 65536) / 4294967296) % 128 = p0 + p1 + p2 + p3 + p4 + p5 + p6 + p7 := by
  subst hy
  refine ⟨by omega, ?_⟩
  generalize hz : 256 * (256 * (256 * (256 * (256 * (256 * (256 * p7 + p6) + p5) + p4) + p3) + p2) + p1) + p0 + (256 * (256 * (256 * (256 * (256 * (256 * (256 * p7 + p6) + p5) + p4) + p3) + p2) + p1) + p0) / 256 = z
  have hz' : z = 256 * (256 * (256 * (256 * (256 * (256 * (256 * p7 + (p6 + p7)) + (p5 + p6)) + (p4 + p5)) + (p3 + p4)) + (p2 + p3)) + (p1 + p2)) + (p0 + p1) := by omega
  clear hz
  generalize hu : z + z / 65536 = u
  have hu' : u = 256 * (256 * (256 * (256 * (256 * (256 * (256 * p7 + (p6 + p7)) + (p5 + p6 + p7)) + (p4 + p5 + p6 + p7)) + (p3 + p4 + p5 + p6)) + (p2 + p3 + p4 + p5)) + (p1 + p2 + p3 + p4)) + (p0 + p1 + p2 + p3) := by omega
  clear hu hz'
  generalize hv : u / 4294967296 = v
  have hv' : v = 256 * (256 * (256 * p7 + (p6 + p7)) + (p5 + p6 + p7)) + (p4 + p5 + p6 + p7) := by omega
  clear hv
  omega
/-- math/bits.OnesCount64's own reckoning. -/
def ones (x : Nat) : Nat := sum4 1085102592571150095 (sum2 3689348814741910323 (one 6148914691236517205 x))
theorem ones_cnt (x : Nat) : ones x < 650000000000000000 ∧ (ones x + ones x / 256 + (ones x + ones x / 256) / 65536 + (ones x + ones x / 256 + (ones x + ones x / 256) / 65536) / 4294967296) % 128 = cnt x := by
  have e : ones x = pops 8 x := by
    rw [← folded_pops]; rfl
  have hm : ∀ y : Nat, pop8 (y % 256) ≤ 8 := fun y => pop8_le _ (Nat.mod_lt _ (by omega))
  have h := adds_up (pop8 (x % 256)) (pop8 (x / 256 % 256)) (pop8 (x / 256 / 256 % 256)) (pop8 (x / 256 / 256 / 256 % 256)) (pop8 (x / 256 / 256 / 256 / 256 % 256)) (pop8 (x / 256 / 256 / 256 / 256 / 256 % 256)) (pop8 (x / 256 / 256 / 256 / 256 / 256 / 256 % 256)) (pop8 (x / 256 / 256 / 256 / 256 / 256 / 256 / 256 % 256)) (ones x) (hm _) (hm _) (hm _) (hm _) (hm _) (hm _) (hm _) (hm _) (by rw [e]; simp only [pops]; omega)
  refine ⟨h.1, h.2.trans ?_⟩
  have r0 : rankTo (x / 256 / 256 / 256 / 256 / 256 / 256 / 256 / 256).testBit (8 * 0) = 0 := rfl
  have r1 : rankTo (x / 256 / 256 / 256 / 256 / 256 / 256 / 256).testBit (8 * 1) = pop8 (x / 256 / 256 / 256 / 256 / 256 / 256 / 256 % 256) + rankTo (x / 256 / 256 / 256 / 256 / 256 / 256 / 256 / 256).testBit (8 * 0) := rankTo_bytes 0 _
  have r2 : rankTo (x / 256 / 256 / 256 / 256 / 256 / 256).testBit (8 * 2) = pop8 (x / 256 / 256 / 256 / 256 / 256 / 256 % 256) + rankTo (x / 256 / 256 / 256 / 256 / 256 / 256 / 256).testBit (8 * 1) := rankTo_bytes 1 _
  have r3 : rankTo (x / 256 / 256 / 256 / 256 / 256).testBit (8 * 3) = pop8 (x / 256 / 256 / 256 / 256 / 256 % 256) + rankTo (x / 256 / 256 / 256 / 256 / 256 / 256).testBit (8 * 2) := rankTo_bytes 2 _
  have r4 : rankTo (x / 256 / 256 / 256 / 256).testBit (8 * 4) = pop8 (x / 256 / 256 / 256 / 256 % 256) + rankTo (x / 256 / 256 / 256 / 256 / 256).testBit (8 * 3) := rankTo_bytes 3 _
  have r5 : rankTo (x / 256 / 256 / 256).testBit (8 * 5) = pop8 (x / 256 / 256 / 256 % 256) + rankTo (x / 256 / 256 / 256 / 256).testBit (8 * 4) := rankTo_bytes 4 _
  have r6 : rankTo (x / 256 / 256).testBit (8 * 6) = pop8 (x / 256 / 256 % 256) + rankTo (x / 256 / 256 / 256).testBit (8 * 5) := rankTo_bytes 5 _
  have r7 : rankTo (x / 256).testBit (8 * 7) = pop8 (x / 256 % 256) + rankTo (x / 256 / 256).testBit (8 * 6) := rankTo_bytes 6 _
  have r8 : cnt x = pop8 (x % 256) + rankTo (x / 256).testBit (8 * 7) := rankTo_bytes 7 x
  omega
end Go.Proofs.YtmmhcfbnelggfaaDoor
