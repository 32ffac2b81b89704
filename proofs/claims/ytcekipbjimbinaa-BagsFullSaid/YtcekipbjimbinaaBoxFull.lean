/- A mailbox's Put into a full queue, and of nil payloads. -/
import Derived.Test.YtcekipbjimbinaaBoxFn
namespace Go.Proofs.Ytcekipbjimbinaa
open Go.RowKit Go.Shelf Go.WideShapes Go.Maps
variable {P : Pl} {B : Nat} {w : World} {b : Nat} {tv : Value} {mb : Nat} {qv : Value} {D : DataW Unit} {ss : List ByteArray} {qs : Nat → Qd} {its : Nat → List (Int × Int)} {full : Nat} {last lm : Int}

theorem box_put_nil (h : Box P B w b tv mb qv D ss qs its full last last) (j : Nat) (hj : j < ss.length) (id : Int) (hid : last < id) (hlt : (its j).length < 12) :
    Calls Try.prog 6 #[.pointer (some ⟨b, 0, none⟩), .agg #[.int .i64 id, .string (ss.getD j ByteArray.empty), .slice none 0 0]] w fun e w' => e = .returned (.int .i64 0) ∧ ∃ d' f', Box P B w' b tv mb qv D ss (upd qs j d') (upd its j (its j ++ [(id, 0)])) f' id id ∧ Below B w w' := by
  refine (box_put (fun _ _ => True) (fun _ _ _ _ _ => trivial) (fun P' => P' = P) ⟨P, rfl⟩ (fun P' e => e ▸ h) j hj id 0 hid hlt none 0 0 (fun V _ => (clone_nil V).mono ?_)).mono ?_
  · rintro e V' ⟨rfl, rfl⟩
    exact ⟨Below.refl _ _, P, rfl, trivial, by rw [P.z.1, P.z.2.1, P.z.2.2]⟩
  · rintro e w' ⟨rfl, P', d', rfl, _, hb, hB⟩
    exact ⟨rfl, d', _, hb, hB⟩
set_option maxRecDepth 100000 in
set_option maxHeartbeats 4000000 in
theorem box_full (h : Box P B w b tv mb qv D ss qs its full last last) (j : Nat) (hj : j < ss.length) (id : Int) (hid : last < id) (hlt : (its j).length = 12) :
    Calls Try.prog 6 #[.pointer (some ⟨b, 0, none⟩), .agg #[.int .i64 id, .string (ss.getD j ByteArray.empty), .slice none 0 0]] w fun e w' => e = .returned (.int .i64 140) ∧ Below w.heap.size w w' := by
  have hlast := h.lasts j hj
  have hmsg := Blk.new w #[.int .i64 id, .string (ss.getD j ByteArray.empty), .slice none 0 0] 31
  have hB1 : Below w.heap.size w (w.alloc (.cells #[.int .i64 id, .string (ss.getD j ByteArray.empty), .slice none 0 0] 31)) := (Below.refl _ w).alloc (Nat.le_refl _) _
  have hb1 := h.below hB1
  have hO := Lib.hid (fun q => of_any (hb1.drewN q) j hj)
  have hF := Lib.hid (fun q => qd_full ((hb1.drewN q).que j hj) id 0 (by omega) hlt)
  rw [P.z.1, P.z.2.1, P.z.2.2] at hF
  have hC := Lib.hid clone_nil
  generalize ss.getD j ByteArray.empty = s at *
  have hid2 : ¬ id ≤ last := by omega
  replace h := Lib.hid h
  replace hlast := Lib.hid hlast
  go_enter Try.func6, Try.ntmps6
  go_wp2_with fail
  generalize hw1 : w.alloc (.cells #[.int .i64 id, .string s, .slice none 0 0] 31) = w1 at *
  replace hw1 := Lib.hid hw1
  obtain ⟨c0, c1, c2, c3, c4⟩ := hb1.cells
  have m0 : w1.cell? ⟨w.heap.size, 0, none⟩ = some (.int .i64 id) := hmsg.cell rfl
  have m1 : w1.cell? ⟨w.heap.size, 1, none⟩ = some (.string s) := hmsg.cell rfl
  have m2 : w1.cell? ⟨w.heap.size, 2, none⟩ = some (.slice none 0 0) := hmsg.cell rfl
  replace hb1 := Lib.hid hb1
  replace hmsg := Lib.hid hmsg
  replace hB1 := Lib.hid hB1
  go_quiet (fail)
  go_wp2_with fail
  refine (hO.out _).mono ?_
  rintro e w2 ⟨rfl, rfl⟩
  go_wp2_with fail
  go_region_with (first
    | (go_at_call 16; refine (hC.out _).mono ?_; rintro e V ⟨rfl, rfl⟩)
    | (go_at_call 15; refine (hF.out _).mono ?_; rintro e V2 ⟨rfl, q2, rfl⟩))
  all_goals
    go_wp2_with fail
    go_ret
    exact ⟨rfl, below_drawn hB1.out _⟩
end Go.Proofs.Ytcekipbjimbinaa
