/- The reference's sets: with and without a number, the others, counts and places. -/
import Derived.Test.YtmmhcfbnelggfaaDoorPos
import Derived.Test.YtmmhcfbnelggfaaDoorOf
import Derived.Test.YtmmhcfbnelggfaaDoorKit
import Derived.Deep.CutRange
namespace Go.Proofs.YtmmhcfbnelggfaaDoor
open Go.RowKit

/-- A whole row is loaded by an operation whose guard says yes. -/
theorem wpList_load_row_want {P : Program} {ops : Array Oper} {rest : List Oper} {o : Oper} {a : Act} {w : World} {Q : Exit → Act → World → Prop} (hw : Region.wanted o (yielded ops a.tmps) = true) (ty : TypeId) (x : Operand) (ho : o.op = .load ty x)
    (g : Nat) (hx : a.eval x = .pointer (some ⟨g, 0, none⟩)) (t : TypeId) (cs : Array Value) (fr : Nat × Nat) (d : TypeDesc) (hg : w.heap[g]? = some (.cells cs t fr))
    (hu : P.underlying ty = some d) (hd : (match d with | .struct _ | .array _ _ => true | _ => false) = true) (hi : (P.info? ty).map (·.size) = some cs.size)
    (h : wpList P ops Q rest (a.put o.dst (.agg cs)) w) : wpList P ops Q (o :: rest) a w :=
  wpList_step fun _ hK => by rw [if_pos hw]; exact wp_load_row ty x ho g hx t cs fr d hg hu hd hi (hK _ _ h)
theorem setC_at (f : Nat → Bool) (i : Nat) (h : i < 64) {w : World} {b : Nat} (hb : Blk w b (setC f) 29) : w.cell? ⟨b, i, none⟩ = some (.bool (f i)) := hb.cell (setC_get f i h)

def hasF (f : Nat → Bool) (i : Int) : Bool := decide (0 ≤ i) && (decide (i ≤ 63) && f i.toNat)
def putF (f : Nat → Bool) (i : Int) (b : Bool) (j : Nat) : Bool := if (j : Int) = i then b else f j
def notF (f : Nat → Bool) (n : Int) (j : Nat) : Bool := decide ((j : Int) < n) && !f j

theorem refHas_any (f : Nat → Bool) (i : Int) (w : World) :
    Calls Tryd.prog 21 #[.agg (setC f), .int .i64 i] w fun e w' => e = .returned (.bool (hasF f i)) ∧ Below w.heap.size w w' := by
  by_cases h0 : 0 ≤ i
  · by_cases h1 : i ≤ 63
    · obtain ⟨k, rfl⟩ : ∃ k : Nat, i = k := ⟨i.toNat, by omega⟩
      have hc := setC_at f k (by omega) (Blk.new w (setC f) 29)
      have e : hasF f k = f k := by simp [hasF]; omega
      rw [e]
      replace e := Lib.hid e
      cases hb : f k
      all_goals
        rw [hb] at hc
        replace hb := Lib.hid hb
        go_enter Tryd.func21, Tryd.ntmps21
        go_wp2
        go_ret
        exact ⟨rfl, (Below.refl _ w).alloc (Nat.le_refl _) _⟩
    · have e : hasF f i = false := by simp [hasF, h1]
      rw [e]
      replace e := Lib.hid e
      go_enter Tryd.func21, Tryd.ntmps21
      go_wp2
      go_ret
      exact ⟨rfl, (Below.refl _ w).alloc (Nat.le_refl _) _⟩
  · have e : hasF f i = false := by simp [hasF, h0]
    rw [e]
    replace e := Lib.hid e
    go_enter Tryd.func21, Tryd.ntmps21
    go_wp2
    go_ret
    exact ⟨rfl, (Below.refl _ w).alloc (Nat.le_refl _) _⟩

theorem refPut_out (f : Nat → Bool) (i : Int) (b : Bool) (h : i < 0 ∨ 63 < i) (w : World) :
    Calls Tryd.prog 23 #[.agg (setC f), .int .i64 i, .bool b] w fun e w' => e = .returned (.agg (setC (putF f i b))) ∧ Below w.heap.size w w' := by
  have e : setC (putF f i b) = setC f := setC_congr fun j hj => by unfold putF; rw [if_neg (by omega)]
  rw [e]
  replace e := Lib.hid e
  have H1 : Hid (Blk ((w.alloc (.cells (setC f) 29)).alloc (.cells (setC fun _ => false) 29)) w.heap.size (setC f) 29) := Lib.hid ((Blk.new w _ _).alloc _)
  have H2 : Hid (Blk ((w.alloc (.cells (setC f) 29)).alloc (.cells (setC fun _ => false) 29)) (w.heap.size + 1) (setC fun _ => false) 29) := Lib.hid (by have := Blk.new (w.alloc (.cells (setC f) 29)) (setC fun _ => false) 29; simp only [World.size_alloc] at this; exact this)
  rcases h with h | h
  all_goals
    go_enter Tryd.func23, Tryd.ntmps23
    go_wp2_with (first | (refine wpList_load_row rfl 29 (.tmp 3) rfl (w.heap.size) rfl 29 _ (0,0) _ H1.out.eq Tryd.underlying29 rfl (size_set _) ?_) | (refine wpList_store_row rfl 29 (.tmp 6) (.tmp 16) rfl (w.heap.size + 1) _ rfl rfl 29 _ H2.out.eq (size_set _) (by rw [setC_size, setC_size]) (setC_one _) ?_))
    refine bodyPost_ret (v := .agg (setC f)) (results_cell_row (fn := Tryd.f23) rfl _ _ (w.heap.size + 1) 29 _ (0, 0) _ rfl (setRow_heap _ _ _ _ _ _ H2.out.eq) Tryd.underlying29 rfl (size_set _)) rfl ⟨rfl, below_setRow (((Below.refl _ w).alloc (Nat.le_refl _) _).alloc (by simp) _) (by omega) _⟩

theorem refPut_in (f : Nat → Bool) (k : Nat) (b : Bool) (h : k < 64) (w : World) :
    Calls Tryd.prog 23 #[.agg (setC f), .int .i64 k, .bool b] w fun e w' => e = .returned (.agg (setC (putF f k b))) ∧ Below w.heap.size w w' := by
  have e : (setC f).setIfInBounds k (.bool b) = setC (putF f k b) := setC_set f _ k b h (by simp [putF]) (fun j hj => by unfold putF; rw [if_neg (by omega)])
  have h0 : Blk ((w.alloc (.cells (setC f) 29)).alloc (.cells (setC fun _ => false) 29)) w.heap.size (setC f) 29 := ((Blk.new w _ _).alloc _)
  have h2 : Blk ((w.alloc (.cells (setC f) 29)).alloc (.cells (setC fun _ => false) 29)) (w.heap.size + 1) (setC fun _ => false) 29 := (by have := Blk.new (w.alloc (.cells (setC f) 29)) (setC fun _ => false) 29; simp only [World.size_alloc] at this; exact this)
  have hB : Below w.heap.size w ((w.alloc (.cells (setC f) 29)).alloc (.cells (setC fun _ => false) 29)) := ((Below.refl _ w).alloc (Nat.le_refl _) _).alloc (by simp) _
  obtain ⟨W0, hW0⟩ : ∃ W0, (w.alloc (.cells (setC f) 29)).alloc (.cells (setC fun _ => false) 29) = W0 := ⟨_, rfl⟩
  rw [hW0] at h0 h2 hB
  rw [setC_zero] at hW0
  replace hW0 := Lib.hid hW0
  have hc := setC_at f k h h0
  have hf := h0.free k
  have h1 := h0.set k (.bool b)
  rw [e] at h1
  replace h2 := h2.other (a := ⟨w.heap.size, k, none⟩) (by simp) (.bool b)
  replace hB : Below w.heap.size w (W0.setCell ⟨w.heap.size, k, none⟩ (.bool b)) := hB.setCell (Nat.le_refl _) _
  replace h0 := Lib.hid h0
  replace h1 := Lib.hid h1
  replace h2 := Lib.hid h2
  replace hB := Lib.hid hB
  replace e := Lib.hid e
  go_enter Tryd.func23, Tryd.ntmps23
  go_upto_region 1 with (fail)
  rw [hW0.out]
  go_wp2_with (first | (refine wpList_load_row rfl 29 (.tmp 3) rfl (w.heap.size) rfl 29 _ (0,0) _ h1.out.eq Tryd.underlying29 rfl (size_set _) ?_) | (refine wpList_store_row rfl 29 (.tmp 6) (.tmp 16) rfl (w.heap.size + 1) _ rfl rfl 29 _ h2.out.eq (size_set _) (by rw [setC_size, setC_size]) (setC_one _) ?_))
  refine bodyPost_ret (v := .agg (setC (putF f k b))) (results_cell_row (fn := Tryd.f23) rfl _ _ (w.heap.size + 1) 29 _ (0, 0) _ rfl (setRow_heap _ _ _ _ _ _ h2.out.eq) Tryd.underlying29 rfl (size_set _)) rfl ⟨rfl, below_setRow hB.out (by omega) _⟩
theorem refPut_any (f : Nat → Bool) (i : Int) (b : Bool) (w : World) :
    Calls Tryd.prog 23 #[.agg (setC f), .int .i64 i, .bool b] w fun e w' => e = .returned (.agg (setC (putF f i b))) ∧ Below w.heap.size w w' := by
  by_cases h : i < 0 ∨ 63 < i
  · exact refPut_out f i b h w
  · obtain ⟨k, rfl⟩ : ∃ k : Nat, i = k := ⟨i.toNat, by omega⟩
    exact refPut_in f k b (by omega) w

set_option maxHeartbeats 400000 in
theorem refRank_any (f : Nat → Bool) (i : Int) (w : World) :
    Calls Tryd.prog 28 #[.agg (setC f), .int .i64 i] w fun e w' => e = .returned (.int .i64 (rankTo f (min i.toNat 64) : Nat)) ∧ Below w.heap.size w w' := by
  have hb := Blk.new w (setC f) 29
  replace hb := Lib.hid hb
  go_enter Tryd.func28, Tryd.ntmps28
  go_wp2
  go_loop [5, 6] (fun n j => ∃ k : Nat, k ≤ min i.toNat 64 ∧ j = .int .i64 k ∧ n = .int .i64 (rankTo f k : Nat)) (fun _ j => 64 - (intOf j).toNat)
  case atStart => exact ⟨0, by omega, rfl, rfl⟩
  case round =>
    obtain ⟨k, hk, rfl, rfl⟩ := hrel
    have hr := rankTo_le f k
    by_cases h1 : k < 64
    · by_cases h2 : (k : Int) < i
      · have hc := setC_at f k h1 hb.out
        have hs : Hid (rankTo f (k + 1) = rankTo f k + if f k then 1 else 0) := Lib.hid rfl
        have h3 : k + 1 ≤ min i.toNat 64 := by omega
        generalize rankTo f k = r at *
        cases hf : f k
        all_goals
          rw [hf] at hc hs
          replace hf := Lib.hid hf
          replace h3 := Lib.hid h3
          go_wp2
          go_round
          case rel => exact ⟨k + 1, h3.out, by go_num, by rw [hs.out]; simp⟩
          case measure => simp [intOf]; omega
      · have h3 : min i.toNat 64 = k := by omega
        replace h3 := Lib.hid h3
        go_wp2
        go_ret
        exact ⟨by rw [h3.out]; rfl, (Below.refl _ w).alloc (Nat.le_refl _) _⟩
    · have h3 : min i.toNat 64 = k := by omega
      replace h3 := Lib.hid h3
      go_wp2
      go_ret
      exact ⟨by rw [h3.out]; rfl, (Below.refl _ w).alloc (Nat.le_refl _) _⟩

set_option maxHeartbeats 400000 in
theorem refNot_any (f : Nat → Bool) (i : Int) (w : World) :
    Calls Tryd.prog 26 #[.agg (setC f), .int .i64 i] w fun e w' => e = .returned (.agg (setC (notF f i))) ∧ Below w.heap.size w w' := by
  go_enter Tryd.func26, Tryd.ntmps26
  go_wp2
  go_loopw [5] (fun j wr => ∃ k : Nat, k ≤ 64 ∧ j = .int .i64 k ∧ Blk wr w.heap.size (setC fun l => if l < k then notF f i l else f l) 29 ∧ Blk wr (w.heap.size + 1) (setC fun _ => false) 29 ∧ Below w.heap.size w wr) (fun j _ => 64 - (intOf j).toNat)
  case atStart => exact ⟨0, by omega, rfl, (Blk.new w _ _).alloc _, (by have := Blk.new (w.alloc (.cells (setC f) 29)) (setC fun _ => false) 29; simp only [World.size_alloc] at this; exact this), ((Below.refl _ w).alloc (Nat.le_refl _) _).alloc (by simp) _⟩
  case round =>
    obtain ⟨k, hk, rfl, b1, b2, hB⟩ := hrel
    by_cases h1 : k < 64
    · have hc : wr.cell? ⟨w.heap.size, k, none⟩ = some (.bool (f k)) := by rw [setC_at _ k h1 b1, if_neg (by omega)]
      have hfr := b1.free k
      replace b1 := Lib.hid b1
      replace b2 := Lib.hid b2
      replace hB := Lib.hid hB
      by_cases h2 : (k : Int) < i
      · cases hf : f k
        all_goals
          rw [hf] at hc
          replace hf := Lib.hid hf
          go_wp2
          go_roundw
          case rel =>
            refine ⟨k + 1, by omega, by go_num, ?_, b2.out.other (by simp) _, hB.out.setCell (by simp) _⟩
            rw [← setC_set (fun l => if l < k then notF f i l else f l) _ k (notF f i k) h1 (by simp) (fun j hj => by
              rcases Nat.lt_or_gt_of_ne hj with h | h
              · rw [if_pos h, if_pos (by omega)]
              · rw [if_neg (by omega), if_neg (by omega)])]
            have e : notF f i k = !f k := by simp [notF, h2]
            rw [e, hf.out]
            exact b1.out.set k _
          case measure => simp [intOf]; omega
      · go_wp2
        go_roundw
        case rel =>
          refine ⟨k + 1, by omega, by go_num, ?_, b2.out.other (by simp) _, hB.out.setCell (by simp) _⟩
          rw [← setC_set (fun l => if l < k then notF f i l else f l) _ k (notF f i k) h1 (by simp) (fun j hj => by
            rcases Nat.lt_or_gt_of_ne hj with h | h
            · rw [if_pos h, if_pos (by omega)]
            · rw [if_neg (by omega), if_neg (by omega)])]
          have e : notF f i k = false := by simp [notF, h2]
          rw [e]
          exact b1.out.set k _
        case measure => simp [intOf]; omega
    · obtain rfl : k = 64 := by omega
      have b3 : Blk wr w.heap.size (setC (notF f i)) 29 := by
        rw [setC_congr (g := fun l => if l < 64 then notF f i l else f l) (fun j hj => by rw [if_pos hj])]; exact b1
      clear b1
      replace b3 := Lib.hid b3
      replace b2 := Lib.hid b2
      replace hB := Lib.hid hB
      go_wp2_with (first | (refine wpList_load_row rfl 29 (.tmp 2) rfl (w.heap.size) rfl 29 _ (0,0) _ b3.out.eq Tryd.underlying29 rfl (size_set _) ?_) | (refine wpList_store_row rfl 29 (.tmp 4) (.tmp 21) rfl (w.heap.size + 1) _ rfl rfl 29 _ b2.out.eq (size_set _) (by rw [setC_size, setC_size]) (setC_one _) ?_))
      refine bodyPost_ret (v := .agg (setC (notF f i))) (results_cell_row (fn := Tryd.f26) rfl _ _ (w.heap.size + 1) 29 _ (0, 0) _ rfl (setRow_heap _ _ _ _ _ _ b2.out.eq) Tryd.underlying29 rfl (size_set _)) rfl ⟨rfl, below_setRow hB.out (by omega) _⟩
end Go.Proofs.YtmmhcfbnelggfaaDoor
