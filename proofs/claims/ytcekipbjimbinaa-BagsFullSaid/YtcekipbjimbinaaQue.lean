/- A queue's block, its ring, and what the small functions answer. -/
import Derived.Test.YtcekipbjimbinaaKit
import Derived.Lib.Hide
import Derived.IntWalk
import Derived.Deep.QuietTactic
import Derived.BigQuiet
namespace Go.Proofs.Ytcekipbjimbinaa
open Go.RowKit
/-- Payloads: a number for each slice that is put in; 0 is the nil one. -/
structure Pl where
  A : Int → Option Addr
  L : Int → Nat
  C : Int → Nat
  z : A 0 = none ∧ L 0 = 0 ∧ C 0 = 0
variable {P : Pl}

/-- A ring's cells. -/
def flat (P : Pl) (rs : List (Int × Int)) : List Value := rs.flatMap fun p => [.int .i64 p.1, .slice (P.A p.2) (P.L p.2) (P.C p.2)]
theorem flat_nil : flat P [] = [] := rfl
theorem flat_cons (p : Int × Int) (rs : List (Int × Int)) : flat P (p :: rs) = .int .i64 p.1 :: .slice (P.A p.2) (P.L p.2) (P.C p.2) :: flat P rs := by simp [flat]
theorem flat_append (a b : List (Int × Int)) : flat P (a ++ b) = flat P a ++ flat P b := by simp [flat]
theorem flat_length (rs : List (Int × Int)) : (flat P rs).length = 2 * rs.length := by
  induction rs with
  | nil => rfl
  | cons p rs ih => rw [flat_cons]; simp only [List.length_cons, ih]; omega
theorem flat_id (rs : List (Int × Int)) : ∀ i, i < rs.length → (flat P rs)[i * 2]? = some (.int .i64 (rs.getD i (0, 0)).1) := by
  induction rs with
  | nil => intro i h; exact absurd h (by simp)
  | cons p rs ih =>
    intro i h
    rw [flat_cons]
    cases i with
    | zero => simp
    | succ i =>
      rw [show (i + 1) * 2 = i * 2 + 1 + 1 by omega]
      simp only [List.getElem?_cons_succ, List.getD_cons_succ]
      exact ih i (by simpa using h)
theorem flat_x (rs : List (Int × Int)) : ∀ i, i < rs.length → (flat P rs)[i * 2 + 1]? = some (.slice (P.A (rs.getD i (0, 0)).2) (P.L (rs.getD i (0, 0)).2) (P.C (rs.getD i (0, 0)).2)) := by
  induction rs with
  | nil => intro i h; exact absurd h (by simp)
  | cons p rs ih =>
    intro i h
    rw [flat_cons]
    cases i with
    | zero => simp
    | succ i =>
      rw [show (i + 1) * 2 + 1 = i * 2 + 1 + 1 + 1 by omega]
      simp only [List.getElem?_cons_succ, List.getD_cons_succ]
      exact ih i (by simpa using h)
theorem flat_set (rs : List (Int × Int)) : ∀ (i : Nat) (a b : Int), ((flat P rs).set (i * 2) (.int .i64 a)).set (i * 2 + 1) (.slice (P.A b) (P.L b) (P.C b)) = flat P (rs.set i (a, b)) := by
  induction rs with
  | nil => intro i a b; simp [flat]
  | cons p rs ih =>
    intro i a b
    rw [flat_cons]
    cases i with
    | zero => simp [flat_cons]
    | succ i =>
      rw [show (i + 1) * 2 = i * 2 + 1 + 1 by omega]
      simp only [List.set_cons_succ, flat_cons, ih]
/-- A queue: the block of its fields, and the row that is its ring. -/
structure Que (P : Pl) (B : Nat) (w : World) (p : Nat) (rv : Value) (rs : List (Int × Int)) (fr n : Nat) (most last : Int) : Prop where
  blk : Blk w p #[rv, .int .i64 fr, .int .i64 n, .int .i64 most, .int .i64 last] 75
  own : w.ownsRow B 78 2 rv rs.length (flat P rs)
  lo : B ≤ p
  fits : (fr < rs.length ∧ n ≤ rs.length) ∨ (fr = 0 ∧ n = 0 ∧ rs = [])
  small : rs.length ≤ 8796093022208
  most1 : (n : Int) ≤ most
/-- What is in, in order. -/
def items (rs : List (Int × Int)) (fr n : Nat) : List (Int × Int) := (List.range n).map fun i => rs.getD ((fr + i) % rs.length) (0, 0)
theorem items_length (rs : List (Int × Int)) (fr n : Nat) : (items rs fr n).length = n := by simp [items]
theorem Que.ring {B : Nat} {w : World} {p : Nat} {rv : Value} {rs : List (Int × Int)} {fr n : Nat} {most last : Int} (h : Que P B w p rv rs fr n most last) (hn : 0 < n) :
    fr < rs.length ∧ n ≤ rs.length ∧ ∃ g c, rv = .slice (some ⟨g, 0, none⟩) rs.length c ∧ B ≤ g ∧ g ≠ p ∧ (∀ j, j < rs.length → w.cell? ⟨g, j * 2, none⟩ = some (.int .i64 (rs.getD j (0, 0)).1) ∧ w.cell? ⟨g, j * 2 + 1, none⟩ = some (.slice (P.A (rs.getD j (0, 0)).2) (P.L (rs.getD j (0, 0)).2) (P.C (rs.getD j (0, 0)).2))) ∧ ∀ o, w.frozen? ⟨g, o, none⟩ = false := by
  rcases h.fits with ⟨h1, h2⟩ | ⟨_, h2, _⟩
  · refine ⟨h1, h2, ?_⟩
    have ho := h.own
    rcases ho.2 with ⟨_, h0⟩ | ⟨g, c, cur, rfl, hb, hg, _⟩
    · omega
    · refine ⟨g, c, rfl, hb, ?_, fun j hj => ⟨?_, ?_⟩, fun o => ho.frozenAt o⟩
      · intro e
        have := h.blk.eq
        rw [← e, hg] at this
        simp at this
      · rw [ho.cellAt (j * 2) (by omega), flat_id rs j hj]
      · rw [ho.cellAt (j * 2 + 1) (by omega), flat_x rs j hj]
  · omega

/- The small functions. -/
theorem len_any (p : Nat) (n : Int) (w : World) (hc : w.cell? ⟨p, 2, none⟩ = some (.int .i64 n)) :
    Calls Try.prog 18 #[.pointer (some ⟨p, 0, none⟩)] w fun e w' => e = .returned (.int .i64 n) ∧ w' = w := by
  go_enter Try.func18, Try.ntmps18
  go_wp2
  go_ret
  exact ⟨rfl, rfl⟩
theorem at_any (p g L c fr i : Nat) (w : World) (hr : w.cell? ⟨p, 0, none⟩ = some (.slice (some ⟨g, 0, none⟩) L c)) (hf : w.cell? ⟨p, 1, none⟩ = some (.int .i64 fr)) (hL : fr < L) (hi : i < L) (hs : L ≤ 8796093022208) :
    Calls Try.prog 28 #[.pointer (some ⟨p, 0, none⟩), .int .i64 i] w fun e w' => e = .returned (.pointer (some ⟨g, ((fr + i) % L) * 2, none⟩)) ∧ ∃ q, w' = w.drewN q := by
  have hw : IntKind.i64.wrap ((fr : Int) + (i : Int)) = ((fr + i : Nat) : Int) := by
    rw [IntWalk.i64_in _ (by omega)]; omega
  have hm : (fr + i) % L < L := Nat.mod_lt _ (by omega)
  have ht : ((fr + i : Nat) : Int).tmod (L : Int) = (((fr + i) % L : Nat) : Int) := by
    rw [Int.tmod_eq_emod_of_nonneg (by omega)]; omega
  have hL0 : (L : Int) ≠ 0 := by omega
  have hL1 : ((L : Int) == 0) = false := by simp; omega
  have hfit : ∀ k : Nat, k < L → IntKind.i64.wrap (k : Int) = (k : Int) := fun k hk => IntWalk.i64_in _ (by omega)
  have hfit2 := hfit _ hm
  have hm1 : (((fr + i) % L : Nat) : Int) < (L : Int) := by omega
  have hm0 : (0 : Int) ≤ (((fr + i) % L : Nat) : Int) := by omega
  generalize (fr + i) % L = k at *
  generalize fr + i = s at *
  clear hfit
  go_enter Try.func28, Try.ntmps28
  go_wp2
  go_quiet (fail)
  go_wp2
  go_ret
  exact ⟨rfl, _, rfl⟩
/-- The cells of a row at a place. -/
theorem Que.place {B : Nat} {w : World} {p : Nat} {rv : Value} {rs : List (Int × Int)} {fr n : Nat} {most last : Int} (h : Que P B w p rv rs fr n most last) (i : Nat) (hi : i < n) :
    ∃ g c k, rv = .slice (some ⟨g, 0, none⟩) rs.length c ∧ fr < rs.length ∧ i < rs.length ∧ k = (fr + i) % rs.length ∧ k < rs.length ∧ w.cell? ⟨g, k * 2, none⟩ = some (.int .i64 ((items rs fr n).getD i (0, 0)).1) ∧ w.cell? ⟨g, k * 2 + 1, none⟩ = some (.slice (P.A ((items rs fr n).getD i (0, 0)).2) (P.L ((items rs fr n).getD i (0, 0)).2) (P.C ((items rs fr n).getD i (0, 0)).2)) := by
  obtain ⟨h1, h2, g, c, hv, _, _, hc, _⟩ := h.ring (by omega)
  have hk : (fr + i) % rs.length < rs.length := Nat.mod_lt _ (by omega)
  refine ⟨g, c, _, hv, h1, by omega, rfl, hk, ?_⟩
  have e : (items rs fr n).getD i (0, 0) = rs.getD ((fr + i) % rs.length) (0, 0) := by simp [items, List.getD, hi]
  rw [e]
  exact hc _ hk
theorem Que.cells {B : Nat} {w : World} {p : Nat} {rv : Value} {rs : List (Int × Int)} {fr n : Nat} {most last : Int} (h : Que P B w p rv rs fr n most last) :
    w.cell? ⟨p, 0, none⟩ = some rv ∧ w.cell? ⟨p, 1, none⟩ = some (.int .i64 fr) ∧ w.cell? ⟨p, 2, none⟩ = some (.int .i64 n) ∧ w.cell? ⟨p, 3, none⟩ = some (.int .i64 most) ∧ w.cell? ⟨p, 4, none⟩ = some (.int .i64 last) :=
  ⟨h.blk.cell rfl, h.blk.cell rfl, h.blk.cell rfl, h.blk.cell rfl, h.blk.cell rfl⟩
theorem Que.drewN {B : Nat} {w : World} {p : Nat} {rv : Value} {rs : List (Int × Int)} {fr n : Nat} {most last : Int} (h : Que P B w p rv rs fr n most last) (q : Nat) : Que P B (w.drewN q) p rv rs fr n most last := ⟨h.blk, h.own, h.lo, h.fits, h.small, h.most1⟩
/-- 'at', of a queue. -/
theorem qat_any {B : Nat} {w : World} {p : Nat} {rv : Value} {rs : List (Int × Int)} {fr n : Nat} {most last : Int} (h : Que P B w p rv rs fr n most last) {g c : Nat} (hv : rv = .slice (some ⟨g, 0, none⟩) rs.length c) (hf : fr < rs.length) (i : Nat) (hi : i < rs.length) (k : Nat) (hk : k = (fr + i) % rs.length) :
    Calls Try.prog 28 #[.pointer (some ⟨p, 0, none⟩), .int .i64 i] w fun e w' => e = .returned (.pointer (some ⟨g, k * 2, none⟩)) ∧ ∃ q, w' = w.drewN q := by
  subst hk
  have hc := h.cells
  rw [hv] at hc
  exact at_any p g rs.length c fr i w hc.1 hc.2.1 hf hi h.small
theorem new_low (most : Int) (hm : most < 1) (w : World) :
    Calls Try.prog 13 #[.int .i64 most] w fun e w' => e = .returned (.tuple #[.pointer none, .int .i64 2]) ∧ w' = w := by
  have t1 : decide (most < 1) = true := by simp; omega
  go_enter Try.func13, Try.ntmps13
  go_wp2
  go_ret2
  exact ⟨rfl, rfl⟩
theorem new_any (most : Int) (hm : 1 ≤ most) (w : World) :
    Calls Try.prog 13 #[.int .i64 most] w fun e w' => ∃ p, e = .returned (.tuple #[.pointer (some ⟨p, 0, none⟩), .int .i64 0]) ∧ Que P w.heap.size w' p (.slice none 0 0) [] 0 0 most (-1) ∧ Below w.heap.size w w' := by
  have t1 : decide (most < 1) = false := by simp; omega
  go_enter Try.func13, Try.ntmps13
  go_wp2
  go_ret2
  exact ⟨_, rfl, ⟨Blk.new _ _ _, World.ownsRow_nil _ _ _ _, Nat.le_refl _, .inr ⟨rfl, rfl, rfl⟩, by simp, by omega⟩, (Below.refl _ w).alloc (Nat.le_refl _) _⟩
theorem qAt_out (p : Nat) (n i : Int) (w : World) (hc : w.cell? ⟨p, 2, none⟩ = some (.int .i64 n)) (hi : i < 0 ∨ n ≤ i) :
    Calls Try.prog 25 #[.pointer (some ⟨p, 0, none⟩), .int .i64 i] w fun e w' => e = .returned (.tuple #[.int .i64 0, .slice none 0 0, .bool false]) ∧ ∃ q, w' = w.drewN q := by
  have hlen0 := Lib.hid (len_any p n w hc)
  rcases Classical.em (i < 0) with h0 | h0
  · have t1 : decide (i < 0) = true := by simp; omega
    replace hi := Lib.hid hi
    go_enter Try.func25, Try.ntmps25
    go_wp2_with fail
    go_ret3
    exact ⟨rfl, 0, rfl⟩
  · have t1 : decide (i < 0) = false := by simp; omega
    have t2 : decide (n ≤ i) = true := by simp; omega
    replace hi := Lib.hid hi
    go_enter Try.func25, Try.ntmps25
    go_wp2_with fail
    refine hlen0.out.mono ?_
    rintro e w' ⟨rfl, rfl⟩
    go_wp2_with fail
    go_ret3
    exact ⟨rfl, 0, rfl⟩
theorem qAt_any {B : Nat} {w : World} {p : Nat} {rv : Value} {rs : List (Int × Int)} {fr n : Nat} {most last : Int} (h : Que P B w p rv rs fr n most last) (i : Nat) (hi : i < n) :
    Calls Try.prog 25 #[.pointer (some ⟨p, 0, none⟩), .int .i64 i] w fun e w' => e = .returned (.tuple #[.int .i64 ((items rs fr n).getD i (0, 0)).1, .slice (P.A ((items rs fr n).getD i (0, 0)).2) (P.L ((items rs fr n).getD i (0, 0)).2) (P.C ((items rs fr n).getD i (0, 0)).2), .bool true]) ∧ ∃ q, w' = w.drewN q := by
  obtain ⟨g, c, k, hv, hf, hi2, hk, hkl, c1, c2⟩ := h.place i hi
  have hat := fun q => qat_any (h.drewN q) hv hf i hi2 k hk
  have hlen := fun q => len_any p (n : Int) (w.drewN q) h.cells.2.2.1
  have hlen0 := Lib.hid (len_any p (n : Int) w h.cells.2.2.1)
  have hat0 := Lib.hid (qat_any h hv hf i hi2 k hk)
  have t1 : decide ((i : Int) < 0) = false := by simp
  have t2 : decide ((n : Int) ≤ (i : Int)) = false := by simp; omega
  replace hat := Lib.hid hat
  replace hlen := Lib.hid hlen
  replace h := Lib.hid h
  generalize ((items rs fr n).getD i (0, 0)).1 = id at *
  generalize P.A ((items rs fr n).getD i (0, 0)).2 = xa at *
  generalize P.L ((items rs fr n).getD i (0, 0)).2 = xl at *
  generalize P.C ((items rs fr n).getD i (0, 0)).2 = xc at *
  clear hk
  go_enter Try.func25, Try.ntmps25
  go_wp2_with fail
  refine hlen0.out.mono ?_
  rintro e w' ⟨rfl, rfl⟩
  go_wp2_with fail
  refine hat0.out.mono ?_
  rintro e w' ⟨rfl, q, rfl⟩
  go_wp2_with fail
  go_quiet (fail)
  go_wp2
  go_ret3
  exact ⟨rfl, _, World.drewN_drewN _ _ _⟩
end Go.Proofs.Ytcekipbjimbinaa
