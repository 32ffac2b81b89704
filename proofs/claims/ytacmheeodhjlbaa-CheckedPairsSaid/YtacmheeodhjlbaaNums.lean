/- The reference's numbers: Neg, Add. -/
import Derived.Test.YtacmheeodhjlbaaOfs
import Derived.Deep.RegionHeld3
namespace Go.Proofs.Ytacmheeodhjlbaa
open Go.RowKit Go.WideShapes

theorem far_cell {w : World} {a p : Addr} {u v : Value} (h : w.cell? a = some v) (hne : a.block ≠ p.block) : (w.setCell p u).cell? a = some v := by
  rw [World.cell?_of_block (w := w) (heap_setCell_other w p a.block u hne)]; exact h
theorem heap_alloc_second (w : World) (o o' : Obj) : ((w.alloc o).alloc o').heap[w.heap.size + 1]? = some o' := by
  have := heap_alloc_new (w.alloc o) o'
  simpa using this
theorem neg_below (z : Int) : decide (-z < 0) = (!decide (z < 0) && decide (0 < (digs z.natAbs).length)) := by
  have h := digs_nil z.natAbs
  by_cases h0 : z < 0
  · rw [decide_eq_true h0, decide_eq_false (by omega)]; rfl
  · rw [decide_eq_false h0]
    by_cases h1 : z = 0
    · rw [decide_eq_false (by omega), decide_eq_false (by omega)]; rfl
    · rw [decide_eq_true (by omega), decide_eq_true (by omega)]; rfl
set_option maxRecDepth 100000 in
set_option maxHeartbeats 4000000 in
theorem num_neg_any (z : Int) (v : Value) (w : World) (hv : NumAt w v z) : Calls Try.prog 33 #[v] w fun e w' => ∃ u, e = .returned u ∧ NumAt w' u (-z) ∧ Below w.heap.size w w' := by
  obtain ⟨s, rfl, hs⟩ := hv
  have hfin : Hid (∀ wr, Below w.heap.size w wr → NumAt wr (.agg #[.bool (!decide (z < 0) && decide (0 < (digs z.natAbs).length)), s]) (-z)) := Lib.hid fun wr hB => ⟨s, by rw [neg_below], by rw [Int.natAbs_neg]; exact hs.below hB⟩
  obtain ⟨sa, sc, rfl⟩ := hs.len
  clear hs
  generalize (digs z.natAbs).length = n at *
  generalize decide (z < 0) = b at *
  cases b
  · go_enter Try.func33, Try.ntmps33
    go_wp2_with fail
    refine bodyPost_ret (v := .agg #[.bool (decide (0 < n)), .slice sa n sc]) (results_cell_row (fn := Try.f33) rfl _ _ (w.heap.size + 1) 39 _ (0, 0) _ rfl (heap_alloc_second _ _ _) Try.underlying39 rfl (by kernel_rfl)) rfl ?_
    have hB := ((Below.refl w.heap.size w).alloc (Nat.le_refl _) (.cells #[.bool false, .slice sa n sc] 39)).alloc (by simp) (.cells #[.bool (decide (0 < n)), .slice sa n sc] 39)
    exact ⟨_, rfl, hfin.out _ hB, hB⟩
  · go_enter Try.func33, Try.ntmps33
    go_wp2_with fail
    refine bodyPost_ret (v := .agg #[.bool false, .slice sa n sc]) (results_cell_row (fn := Try.f33) rfl _ _ (w.heap.size + 1) 39 _ (0, 0) _ rfl (heap_alloc_second _ _ _) Try.underlying39 rfl (by kernel_rfl)) rfl ?_
    have hB := ((Below.refl w.heap.size w).alloc (Nat.le_refl _) (.cells #[.bool true, .slice sa n sc] 39)).alloc (by simp) (.cells #[.bool false, .slice sa n sc] 39)
    exact ⟨_, rfl, hfin.out _ hB, hB⟩
set_option maxHeartbeats 8000000 in
set_option maxRecDepth 100000 in
theorem na_same (a : Bool) (A0 : Option Addr) (n0 c0 : Nat) (A1 : Option Addr) (n1 c1 : Nat) (r : List Int) (w : World)
    (hT : ∀ wr, Below w.heap.size w wr → Calls Try.prog 41 #[.slice A0 n0 c0, .slice A1 n1 c1] wr fun e w' => ∃ u, e = .returned u ∧ (IntsAt w' u r ∧ Fresh wr.heap.size u) ∧ Below wr.heap.size wr w') :
    Calls Try.prog 31 #[.agg #[.bool a, .slice A0 n0 c0], .agg #[.bool a, .slice A1 n1 c1]] w fun e w' => ∃ u, e = .returned (.agg #[.bool a, u]) ∧ (IntsAt w' u r ∧ Fresh w.heap.size u) ∧ Below w.heap.size w w' := by
  replace hT := Lib.hid hT
  go_enter Try.func31, Try.ntmps31
  go_wp2_with fail
  have hB1 : Below w.heap.size w (((w.alloc (.cells #[.bool a, .slice A0 n0 c0] 39)).alloc (.cells #[.bool a, .slice A1 n1 c1] 39)).alloc (.cells #[.bool false, .slice none 0 0] 39)) := (((Below.refl _ w).alloc (Nat.le_refl _) _).alloc (by simp) _).alloc (by simp; omega) _
  have b0 : (((w.alloc (.cells #[.bool a, .slice A0 n0 c0] 39)).alloc (.cells #[.bool a, .slice A1 n1 c1] 39)).alloc (.cells #[.bool false, .slice none 0 0] 39)).heap[w.heap.size]? = some (.cells #[.bool a, .slice A0 n0 c0] 39) := by
    rw [heap_alloc_old _ _ (by simp; omega), heap_alloc_old _ _ (by simp)]; exact heap_alloc_new _ _
  have b1 : (((w.alloc (.cells #[.bool a, .slice A0 n0 c0] 39)).alloc (.cells #[.bool a, .slice A1 n1 c1] 39)).alloc (.cells #[.bool false, .slice none 0 0] 39)).heap[w.heap.size + 1]? = some (.cells #[.bool a, .slice A1 n1 c1] 39) := by
    rw [heap_alloc_old _ _ (by simp)]; exact heap_alloc2_new _ _ _
  have b2 : (((w.alloc (.cells #[.bool a, .slice A0 n0 c0] 39)).alloc (.cells #[.bool a, .slice A1 n1 c1] 39)).alloc (.cells #[.bool false, .slice none 0 0] 39)).heap[w.heap.size + 1 + 1]? = some (.cells #[.bool false, .slice none 0 0] 39) := by
    have := heap_alloc_new ((w.alloc (.cells #[.bool a, .slice A0 n0 c0] 39)).alloc (.cells #[.bool a, .slice A1 n1 c1] 39)) (.cells #[.bool false, .slice none 0 0] 39)
    simpa using this
  have hs : (((w.alloc (.cells #[.bool a, .slice A0 n0 c0] 39)).alloc (.cells #[.bool a, .slice A1 n1 c1] 39)).alloc (.cells #[.bool false, .slice none 0 0] 39)).heap.size = w.heap.size + 3 := by simp
  generalize (((w.alloc (.cells #[.bool a, .slice A0 n0 c0] 39)).alloc (.cells #[.bool a, .slice A1 n1 c1] 39)).alloc (.cells #[.bool false, .slice none 0 0] 39)) = W1 at *
  have c00 : W1.cell? ⟨w.heap.size, 0, none⟩ = some (.bool a) := by rw [cell_of_row _ _ _ _ _ _ b0]; rfl
  have c01 : W1.cell? ⟨w.heap.size, 1, none⟩ = some (.slice A0 n0 c0) := by rw [cell_of_row _ _ _ _ _ _ b0]; rfl
  have c11 : W1.cell? ⟨w.heap.size + 1, 1, none⟩ = some (.slice A1 n1 c1) := by rw [cell_of_row _ _ _ _ _ _ b1]; rfl
  replace b0 := Lib.hid b0
  replace b1 := Lib.hid b1
  replace b2 := Lib.hid b2
  replace hs := Lib.hid hs
  go_region_held3 (fun w' => w'.cell? ⟨w.heap.size, 0, none⟩ = some (.bool a) ∧ w'.cell? ⟨w.heap.size, 1, none⟩ = some (.slice A0 n0 c0) ∧ w'.cell? ⟨w.heap.size + 1, 1, none⟩ = some (.slice A1 n1 c1)) (first | exact And.intro c00 (And.intro c01 c11) | exact And.intro d00 (And.intro d01 d11) | exact And.intro (far_cell (far_cell d00 (by simp; omega)) (by simp; omega)) (And.intro (far_cell (far_cell d01 (by simp; omega)) (by simp; omega)) (far_cell (far_cell d11 (by simp)) (by simp)))) (first | (go_at_call 41; refine (hT.out _ (Below.drew hB1)).mono ?_; rintro e W2 ⟨v0, rfl, hR, hB2⟩; (obtain ⟨Ao, co, rfl⟩ := hR.1.len); (have d00 := (hB2.cell (p := ⟨w.heap.size, 0, none⟩) (by have := hs.out; simp; omega)).trans c00); (have d01 := (hB2.cell (p := ⟨w.heap.size, 1, none⟩) (by have := hs.out; simp; omega)).trans c01); (have d11 := (hB2.cell (p := ⟨w.heap.size + 1, 1, none⟩) (by have := hs.out; simp; omega)).trans c11); (have d2 := (hB2.block (w.heap.size + 1 + 1) (by have := hs.out; simp; omega)).trans b2.out); (have e20 := cell_of_row _ _ 0 _ _ _ d2); (have e21 := cell_of_row _ _ 1 _ _ _ d2); (have f20 := frozen_of_row _ _ 0 _ _ d2); (have f21 := frozen_of_row _ _ 1 _ _ d2); (simp only [List.getElem?_toArray, List.getElem?_cons_zero, List.getElem?_cons_succ] at e20 e21); (replace d2 := Lib.hid d2)))
  go_wp2
  refine bodyPost_ret (v := .agg #[.bool a, .slice Ao r.length co]) (results_cell_row (fn := Try.f31) rfl _ _ (w.heap.size + 1 + 1) 39 _ (0, 0) _ rfl (heap_setCell_same _ _ _ _ _ _ (heap_setCell_same _ _ _ _ _ _ d2.out)) Try.underlying39 rfl (by kernel_rfl)) rfl ?_
  have hss : w.heap.size + 1 + 1 < W1.drew.heap.size := by have := hs.out; simp; omega
  refine ⟨_, rfl, ⟨(hR.1.setCell hR.2 hss _).setCell hR.2 hss _, hR.2.mono (by omega)⟩, ?_⟩
  exact ((hB1.drew.trans (hB2.mono (by have := hs.out; simp; omega))).setCell (by simp; omega) _).setCell (by simp; omega) _
set_option maxHeartbeats 8000000 in
set_option maxRecDepth 100000 in
theorem na_less (a b : Bool) (hab : (a == b) = false) (A0 : Option Addr) (n0 c0 : Nat) (A1 : Option Addr) (n1 c1 : Nat) (r : List Int) (w : World)
    (hL : ∀ wr, Below w.heap.size w wr → Calls Try.prog 42 #[.slice A0 n0 c0, .slice A1 n1 c1] wr fun e w' => e = .returned (.bool true) ∧ ∃ q, w' = wr.drewN q)
    (hT : ∀ wr, Below w.heap.size w wr → Calls Try.prog 43 #[.slice A1 n1 c1, .slice A0 n0 c0] wr fun e w' => ∃ u, e = .returned u ∧ (IntsAt w' u r ∧ Fresh wr.heap.size u) ∧ Below wr.heap.size wr w') :
    Calls Try.prog 31 #[.agg #[.bool a, .slice A0 n0 c0], .agg #[.bool b, .slice A1 n1 c1]] w fun e w' => ∃ u, e = .returned (.agg #[.bool b, u]) ∧ (IntsAt w' u r ∧ Fresh w.heap.size u) ∧ Below w.heap.size w w' := by
  replace hT := Lib.hid hT
  replace hL := Lib.hid hL
  go_enter Try.func31, Try.ntmps31
  go_wp2_with fail
  have hB1 : Below w.heap.size w (((w.alloc (.cells #[.bool a, .slice A0 n0 c0] 39)).alloc (.cells #[.bool b, .slice A1 n1 c1] 39)).alloc (.cells #[.bool false, .slice none 0 0] 39)) := (((Below.refl _ w).alloc (Nat.le_refl _) _).alloc (by simp) _).alloc (by simp; omega) _
  have b0 : (((w.alloc (.cells #[.bool a, .slice A0 n0 c0] 39)).alloc (.cells #[.bool b, .slice A1 n1 c1] 39)).alloc (.cells #[.bool false, .slice none 0 0] 39)).heap[w.heap.size]? = some (.cells #[.bool a, .slice A0 n0 c0] 39) := by
    rw [heap_alloc_old _ _ (by simp; omega), heap_alloc_old _ _ (by simp)]; exact heap_alloc_new _ _
  have b1 : (((w.alloc (.cells #[.bool a, .slice A0 n0 c0] 39)).alloc (.cells #[.bool b, .slice A1 n1 c1] 39)).alloc (.cells #[.bool false, .slice none 0 0] 39)).heap[w.heap.size + 1]? = some (.cells #[.bool b, .slice A1 n1 c1] 39) := by
    rw [heap_alloc_old _ _ (by simp)]; exact heap_alloc2_new _ _ _
  have b2 : (((w.alloc (.cells #[.bool a, .slice A0 n0 c0] 39)).alloc (.cells #[.bool b, .slice A1 n1 c1] 39)).alloc (.cells #[.bool false, .slice none 0 0] 39)).heap[w.heap.size + 1 + 1]? = some (.cells #[.bool false, .slice none 0 0] 39) := by
    have := heap_alloc_new ((w.alloc (.cells #[.bool a, .slice A0 n0 c0] 39)).alloc (.cells #[.bool b, .slice A1 n1 c1] 39)) (.cells #[.bool false, .slice none 0 0] 39)
    simpa using this
  have hs : (((w.alloc (.cells #[.bool a, .slice A0 n0 c0] 39)).alloc (.cells #[.bool b, .slice A1 n1 c1] 39)).alloc (.cells #[.bool false, .slice none 0 0] 39)).heap.size = w.heap.size + 3 := by simp
  refine (hL.out _ hB1).mono ?_
  rintro e w2 ⟨rfl, ⟨n, rfl⟩⟩
  generalize (((w.alloc (.cells #[.bool a, .slice A0 n0 c0] 39)).alloc (.cells #[.bool b, .slice A1 n1 c1] 39)).alloc (.cells #[.bool false, .slice none 0 0] 39)) = W1 at *
  have hB2 : Below w.heap.size w (W1.drewN n) := below_drawn hB1 n
  have c00 : (W1.drewN n).cell? ⟨w.heap.size, 0, none⟩ = some (.bool a) := by show W1.cell? _ = _; rw [cell_of_row _ _ _ _ _ _ b0]; rfl
  have c10 : (W1.drewN n).cell? ⟨w.heap.size + 1, 0, none⟩ = some (.bool b) := by show W1.cell? _ = _; rw [cell_of_row _ _ _ _ _ _ b1]; rfl
  have c11 : (W1.drewN n).cell? ⟨w.heap.size + 1, 1, none⟩ = some (.slice A1 n1 c1) := by show W1.cell? _ = _; rw [cell_of_row _ _ _ _ _ _ b1]; rfl
  have c01 : (W1.drewN n).cell? ⟨w.heap.size, 1, none⟩ = some (.slice A0 n0 c0) := by show W1.cell? _ = _; rw [cell_of_row _ _ _ _ _ _ b0]; rfl
  replace b2 : (W1.drewN n).heap[w.heap.size + 1 + 1]? = some (.cells #[.bool false, .slice none 0 0] 39) := b2
  replace hs : (W1.drewN n).heap.size = w.heap.size + 3 := hs
  clear b0 b1 hB1
  generalize W1.drewN n = W1' at *
  replace b2 := Lib.hid b2
  replace hs := Lib.hid hs
  replace hB2 := Lib.hid hB2
  go_wp2_with fail
  go_region_held3 (fun w' => w'.cell? ⟨w.heap.size, 0, none⟩ = some (.bool a) ∧ w'.cell? ⟨w.heap.size + 1, 0, none⟩ = some (.bool b) ∧ w'.cell? ⟨w.heap.size, 1, none⟩ = some (.slice A0 n0 c0) ∧ w'.cell? ⟨w.heap.size + 1, 1, none⟩ = some (.slice A1 n1 c1)) (first | exact ⟨c00, c10, c01, c11⟩ | exact ⟨d00, d10, d01, d11⟩ | exact ⟨far_cell (far_cell d00 (by simp; omega)) (by simp; omega), far_cell (far_cell d10 (by simp)) (by simp), far_cell (far_cell d01 (by simp; omega)) (by simp; omega), far_cell (far_cell d11 (by simp)) (by simp)⟩) (first | (go_at_call 43; refine (hT.out _ (Below.drew hB2.out)).mono ?_; rintro e W2 ⟨v0, rfl, hR, hB3⟩; (obtain ⟨Ao, co, rfl⟩ := hR.1.len); (have d00 := (hB3.cell (p := ⟨w.heap.size, 0, none⟩) (by have := hs.out; simp; omega)).trans c00); (have d10 := (hB3.cell (p := ⟨w.heap.size + 1, 0, none⟩) (by have := hs.out; simp; omega)).trans c10); (have d01 := (hB3.cell (p := ⟨w.heap.size, 1, none⟩) (by have := hs.out; simp; omega)).trans c01); (have d11 := (hB3.cell (p := ⟨w.heap.size + 1, 1, none⟩) (by have := hs.out; simp; omega)).trans c11); (have d2 := (hB3.block (w.heap.size + 1 + 1) (by have := hs.out; simp; omega)).trans b2.out); (have e20 := cell_of_row _ _ 0 _ _ _ d2); (have e21 := cell_of_row _ _ 1 _ _ _ d2); (have f20 := frozen_of_row _ _ 0 _ _ d2); (have f21 := frozen_of_row _ _ 1 _ _ d2); (simp only [List.getElem?_toArray, List.getElem?_cons_zero, List.getElem?_cons_succ] at e20 e21); (replace d2 := Lib.hid d2)))
  go_wp2
  refine bodyPost_ret (v := .agg #[.bool b, .slice Ao r.length co]) (results_cell_row (fn := Try.f31) rfl _ _ (w.heap.size + 1 + 1) 39 _ (0, 0) _ rfl (heap_setCell_same _ _ _ _ _ _ (heap_setCell_same _ _ _ _ _ _ d2.out)) Try.underlying39 rfl (by kernel_rfl)) rfl ?_
  have hss : w.heap.size + 1 + 1 < W1'.drew.heap.size := by have := hs.out; simp; omega
  refine ⟨_, rfl, ⟨(hR.1.setCell hR.2 hss _).setCell hR.2 hss _, hR.2.mono (by omega)⟩, ?_⟩
  exact ((hB2.out.drew.trans (hB3.mono (by have := hs.out; simp; omega))).setCell (by simp; omega) _).setCell (by simp; omega) _
set_option maxHeartbeats 8000000 in
set_option maxRecDepth 100000 in
theorem na_more (a b : Bool) (hab : (a == b) = false) (A0 : Option Addr) (n0 c0 : Nat) (A1 : Option Addr) (n1 c1 : Nat) (r : List Int) (w : World)
    (hL : ∀ wr, Below w.heap.size w wr → Calls Try.prog 42 #[.slice A0 n0 c0, .slice A1 n1 c1] wr fun e w' => e = .returned (.bool false) ∧ ∃ q, w' = wr.drewN q)
    (hT : ∀ wr, Below w.heap.size w wr → Calls Try.prog 43 #[.slice A0 n0 c0, .slice A1 n1 c1] wr fun e w' => ∃ u, e = .returned u ∧ (IntsAt w' u r ∧ Fresh wr.heap.size u) ∧ Below wr.heap.size wr w') :
    Calls Try.prog 31 #[.agg #[.bool a, .slice A0 n0 c0], .agg #[.bool b, .slice A1 n1 c1]] w fun e w' => ∃ u, e = .returned (.agg #[.bool (a && decide (0 < r.length)), u]) ∧ (IntsAt w' u r ∧ Fresh w.heap.size u) ∧ Below w.heap.size w w' := by
  replace hT := Lib.hid hT
  replace hL := Lib.hid hL
  go_enter Try.func31, Try.ntmps31
  go_wp2_with fail
  have hB1 : Below w.heap.size w (((w.alloc (.cells #[.bool a, .slice A0 n0 c0] 39)).alloc (.cells #[.bool b, .slice A1 n1 c1] 39)).alloc (.cells #[.bool false, .slice none 0 0] 39)) := (((Below.refl _ w).alloc (Nat.le_refl _) _).alloc (by simp) _).alloc (by simp; omega) _
  have b0 : (((w.alloc (.cells #[.bool a, .slice A0 n0 c0] 39)).alloc (.cells #[.bool b, .slice A1 n1 c1] 39)).alloc (.cells #[.bool false, .slice none 0 0] 39)).heap[w.heap.size]? = some (.cells #[.bool a, .slice A0 n0 c0] 39) := by
    rw [heap_alloc_old _ _ (by simp; omega), heap_alloc_old _ _ (by simp)]; exact heap_alloc_new _ _
  have b1 : (((w.alloc (.cells #[.bool a, .slice A0 n0 c0] 39)).alloc (.cells #[.bool b, .slice A1 n1 c1] 39)).alloc (.cells #[.bool false, .slice none 0 0] 39)).heap[w.heap.size + 1]? = some (.cells #[.bool b, .slice A1 n1 c1] 39) := by
    rw [heap_alloc_old _ _ (by simp)]; exact heap_alloc2_new _ _ _
  have b2 : (((w.alloc (.cells #[.bool a, .slice A0 n0 c0] 39)).alloc (.cells #[.bool b, .slice A1 n1 c1] 39)).alloc (.cells #[.bool false, .slice none 0 0] 39)).heap[w.heap.size + 1 + 1]? = some (.cells #[.bool false, .slice none 0 0] 39) := by
    have := heap_alloc_new ((w.alloc (.cells #[.bool a, .slice A0 n0 c0] 39)).alloc (.cells #[.bool b, .slice A1 n1 c1] 39)) (.cells #[.bool false, .slice none 0 0] 39)
    simpa using this
  have hs : (((w.alloc (.cells #[.bool a, .slice A0 n0 c0] 39)).alloc (.cells #[.bool b, .slice A1 n1 c1] 39)).alloc (.cells #[.bool false, .slice none 0 0] 39)).heap.size = w.heap.size + 3 := by simp
  refine (hL.out _ hB1).mono ?_
  rintro e w2 ⟨rfl, ⟨n, rfl⟩⟩
  generalize (((w.alloc (.cells #[.bool a, .slice A0 n0 c0] 39)).alloc (.cells #[.bool b, .slice A1 n1 c1] 39)).alloc (.cells #[.bool false, .slice none 0 0] 39)) = W1 at *
  have hB2 : Below w.heap.size w (W1.drewN n) := below_drawn hB1 n
  have c00 : (W1.drewN n).cell? ⟨w.heap.size, 0, none⟩ = some (.bool a) := by show W1.cell? _ = _; rw [cell_of_row _ _ _ _ _ _ b0]; rfl
  have c10 : (W1.drewN n).cell? ⟨w.heap.size + 1, 0, none⟩ = some (.bool b) := by show W1.cell? _ = _; rw [cell_of_row _ _ _ _ _ _ b1]; rfl
  have c11 : (W1.drewN n).cell? ⟨w.heap.size + 1, 1, none⟩ = some (.slice A1 n1 c1) := by show W1.cell? _ = _; rw [cell_of_row _ _ _ _ _ _ b1]; rfl
  have c01 : (W1.drewN n).cell? ⟨w.heap.size, 1, none⟩ = some (.slice A0 n0 c0) := by show W1.cell? _ = _; rw [cell_of_row _ _ _ _ _ _ b0]; rfl
  replace b2 : (W1.drewN n).heap[w.heap.size + 1 + 1]? = some (.cells #[.bool false, .slice none 0 0] 39) := b2
  replace hs : (W1.drewN n).heap.size = w.heap.size + 3 := hs
  clear b0 b1 hB1
  generalize W1.drewN n = W1' at *
  replace b2 := Lib.hid b2
  replace hs := Lib.hid hs
  replace hB2 := Lib.hid hB2
  go_wp2_with fail
  refine (hT.out _ hB2.out).mono ?_
  rintro e W2 ⟨v0, rfl, hR, hB3⟩
  obtain ⟨Ao, co, rfl⟩ := hR.1.len
  have d00 := (hB3.cell (p := ⟨w.heap.size, 0, none⟩) (by have := hs.out; simp; omega)).trans c00
  have d2 := (hB3.block (w.heap.size + 1 + 1) (by have := hs.out; simp; omega)).trans b2.out
  have e20 := cell_of_row _ _ 0 _ _ _ d2
  have e21 := cell_of_row _ _ 1 _ _ _ d2
  have f20 := frozen_of_row _ _ 0 _ _ d2
  have f21 := frozen_of_row _ _ 1 _ _ d2
  simp only [List.getElem?_toArray, List.getElem?_cons_zero, List.getElem?_cons_succ] at e20 e21
  replace d2 := Lib.hid d2
  have hss : w.heap.size + 1 + 1 < W1'.heap.size := by have := hs.out; omega
  have hB4 : Below w.heap.size w W2 := hB2.out.trans (hB3.mono (by have := hs.out; omega))
  replace hB4 := Lib.hid hB4
  replace hR := Lib.hid hR
  clear hB3 hB2 c00 c10 c11 c01
  cases a
  · go_wp2_with fail
    refine bodyPost_ret (v := .agg #[.bool false, .slice Ao r.length co]) (results_cell_row (fn := Try.f31) rfl _ _ (w.heap.size + 1 + 1) 39 _ (0, 0) _ rfl (heap_setCell_same _ _ _ _ _ _ (heap_setCell_same _ _ _ _ _ _ d2.out)) Try.underlying39 rfl (by kernel_rfl)) rfl ?_
    exact ⟨_, rfl, ⟨(hR.out.1.setCell hR.out.2 hss _).setCell hR.out.2 hss _, hR.out.2.mono (by omega)⟩, (hB4.out.setCell (by simp; omega) _).setCell (by simp; omega) _⟩
  · go_wp2_with fail
    refine bodyPost_ret (v := .agg #[.bool (decide (0 < r.length)), .slice Ao r.length co]) (results_cell_row (fn := Try.f31) rfl _ _ (w.heap.size + 1 + 1) 39 _ (0, 0) _ rfl (heap_setCell_same _ _ _ _ _ _ (heap_setCell_same _ _ _ _ _ _ d2.out)) Try.underlying39 rfl (by kernel_rfl)) rfl ?_
    exact ⟨_, rfl, ⟨(hR.out.1.setCell hR.out.2 hss _).setCell hR.out.2 hss _, hR.out.2.mono (by omega)⟩, (hB4.out.setCell (by simp; omega) _).setCell (by simp; omega) _⟩
theorem add_below {x y : Int} : (decide (x < 0) = decide (y < 0) → decide (x + y < 0) = decide (x < 0) ∧ (x + y).natAbs = x.natAbs + y.natAbs) ∧
    (decide (x < 0) ≠ decide (y < 0) → (x.natAbs < y.natAbs → decide (x + y < 0) = decide (y < 0) ∧ (x + y).natAbs = y.natAbs - x.natAbs) ∧ (¬ x.natAbs < y.natAbs → decide (x + y < 0) = (decide (x < 0) && decide (0 < (digs (x.natAbs - y.natAbs)).length)) ∧ (x + y).natAbs = x.natAbs - y.natAbs)) := by
  have h := digs_nil (x.natAbs - y.natAbs)
  generalize (digs (x.natAbs - y.natAbs)).length = n at *
  by_cases hx : x < 0 <;> by_cases hy : y < 0
  · rw [decide_eq_true hx, decide_eq_true hy]
    exact ⟨fun _ => ⟨decide_eq_true (by omega), by omega⟩, fun h => absurd rfl h⟩
  · rw [decide_eq_true hx, decide_eq_false hy]
    refine ⟨(fun h => by cases h), fun _ => ⟨fun h1 => ⟨decide_eq_false (by omega), by omega⟩, fun h1 => ⟨?_, by omega⟩⟩⟩
    rw [Bool.true_and]
    exact decide_eq_decide.2 (by omega)
  · rw [decide_eq_false hx, decide_eq_true hy]
    refine ⟨(fun h => by cases h), fun _ => ⟨fun h1 => ⟨decide_eq_true (by omega), by omega⟩, fun h1 => ⟨?_, by omega⟩⟩⟩
    rw [Bool.false_and]
    exact decide_eq_false (by omega)
  · rw [decide_eq_false hx, decide_eq_false hy]
    exact ⟨fun _ => ⟨decide_eq_false (by omega), by omega⟩, fun h => absurd rfl h⟩
theorem num_add_any (x y : Int) (M : Nat) (hM : M ≤ 100000) (hx : (digs x.natAbs).length ≤ M) (hy : (digs y.natAbs).length ≤ M) (u v : Value) (w : World) (hu : NumAt w u x) (hv : NumAt w v y) :
    Calls Try.prog 31 #[u, v] w fun e w' => ∃ r, e = .returned r ∧ NumNew w.heap.size w' r (x + y) ∧ Below w.heap.size w w' := by
  obtain ⟨s, rfl, hs⟩ := hu
  obtain ⟨t, rfl, ht⟩ := hv
  obtain ⟨k1, k2⟩ := add_below (x := x) (y := y)
  have hsl := hs.len
  have htl := ht.len
  have hT := fun wr (hB : Below w.heap.size w wr) => together_any _ _ _ _ M (Is.of_digs x.natAbs) (Is.of_digs y.natAbs) hx hy hM s t wr (hs.below hB) (ht.below hB)
  have hL := fun wr (hB : Below w.heap.size w wr) => less_any x.natAbs y.natAbs s t wr (hs.below hB) (ht.below hB) (by omega)
  have hA1 := fun (h : y.natAbs ≤ x.natAbs) wr (hB : Below w.heap.size w wr) => apart_any x.natAbs y.natAbs h (by omega) (by omega) s t wr (hs.below hB) (ht.below hB)
  have hA2 := fun (h : x.natAbs ≤ y.natAbs) wr (hB : Below w.heap.size w wr) => apart_any y.natAbs x.natAbs h (by omega) (by omega) t s wr (ht.below hB) (hs.below hB)
  clear hs ht
  obtain ⟨sa, sc, rfl⟩ := hsl
  obtain ⟨ta, tc, rfl⟩ := htl
  by_cases hb : decide (x < 0) = decide (y < 0)
  · obtain ⟨e1, e2⟩ := k1 hb
    rw [← hb]
    refine (na_same (decide (x < 0)) sa _ sc ta _ tc (digs (x.natAbs + y.natAbs)) w fun wr hB => (hT wr hB).mono fun e w' ⟨u, r, h1, h2, _, _, h3, h4⟩ => ?_).mono fun e w' ⟨u, h1, h2, h3⟩ => ?_
    · obtain rfl := h3 (can_digs _) (can_digs _)
      exact ⟨u, h1, h2, h4⟩
    · exact ⟨_, h1, ⟨u, by rw [e1], by rw [e2]; exact h2.1, h2.2⟩, h3⟩
  · have hab : (decide (x < 0) == decide (y < 0)) = false := by rw [beq_eq_false_iff_ne]; exact hb
    by_cases hl : x.natAbs < y.natAbs
    · obtain ⟨e1, e2⟩ := (k2 hb).1 hl
      rw [decide_eq_true hl] at hL
      refine (na_less _ _ hab sa _ sc ta _ tc (digs (y.natAbs - x.natAbs)) w hL (hA2 (by omega))).mono fun e w' ⟨u, h1, h2, h3⟩ => ?_
      exact ⟨_, h1, ⟨u, by rw [e1], by rw [e2]; exact h2.1, h2.2⟩, h3⟩
    · obtain ⟨e1, e2⟩ := (k2 hb).2 hl
      rw [decide_eq_false hl] at hL
      refine (na_more _ _ hab sa _ sc ta _ tc (digs (x.natAbs - y.natAbs)) w hL (hA1 (by omega))).mono fun e w' ⟨u, h1, h2, h3⟩ => ?_
      exact ⟨_, h1, ⟨u, by rw [e1], by rw [e2]; exact h2.1, h2.2⟩, h3⟩
end Go.Proofs.Ytacmheeodhjlbaa
