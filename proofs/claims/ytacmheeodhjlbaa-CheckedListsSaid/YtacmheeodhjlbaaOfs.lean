/- The reference's numbers: Of. -/
import Derived.Test.YtacmheeodhjlbaaApart
namespace Go.Proofs.Ytacmheeodhjlbaa
open Go.RowKit Go.WideShapes

/-- The struct holds this number. -/
def NumAt (w : World) (v : Value) (z : Int) : Prop := ∃ s, v = .agg #[.bool (decide (z < 0)), s] ∧ IntsAt w s (digs z.natAbs)
/-- .. and its digits lie in new memory. -/
def NumNew (B : Nat) (w : World) (v : Value) (z : Int) : Prop := ∃ s, v = .agg #[.bool (decide (z < 0)), s] ∧ IntsAt w s (digs z.natAbs) ∧ Fresh B s
theorem NumNew.at {B : Nat} {w : World} {v : Value} {z : Int} (h : NumNew B w v z) : NumAt w v z := by
  obtain ⟨s, h1, h2, _⟩ := h
  exact ⟨s, h1, h2⟩
theorem NumAt.below {w w' : World} {v : Value} {z : Int} (h : NumAt w v z) (hB : Below w.heap.size w w') : NumAt w' v z := by
  obtain ⟨s, h1, h2⟩ := h
  exact ⟨s, h1, h2.below hB⟩
theorem tdiv10 (z : Int) : (z.tdiv 10).natAbs = z.natAbs / 10 ∧ (z.tmod 10).natAbs = z.natAbs % 10 ∧ (0 ≤ z → 0 ≤ z.tmod 10 ∧ 0 ≤ z.tdiv 10) ∧ (z ≤ 0 → z.tmod 10 ≤ 0 ∧ z.tdiv 10 ≤ 0) := by
  have e1 := Int.natAbs_tdiv z 10
  have e2 := Int.natAbs_tmod z 10
  refine ⟨e1, e2, fun h => ?_, fun h => ?_⟩
  · rw [Int.tmod_eq_emod_of_nonneg h, Int.tdiv_eq_ediv_of_nonneg h]; omega
  · have a1 : z = -(-z) := by omega
    rw [a1, Int.neg_tmod, Int.neg_tdiv, Int.tmod_eq_emod_of_nonneg (by omega), Int.tdiv_eq_ediv_of_nonneg (by omega)]; omega
theorem digs_step {z : Int} (h : z ≠ 0) (acc : List Int) : acc ++ digs z.natAbs = (acc ++ [((z.natAbs % 10 : Nat) : Int)]) ++ digs (z.natAbs / 10) := by
  rw [digs_pos (n := z.natAbs) (by omega), List.append_assoc]; rfl
theorem own_shape {w : World} {base : Nat} {e : TypeId} {size : Nat} {v : Value} {n : Nat} {xs : List Value} (h : w.ownsRow base e size v n xs) : ∃ a c, v = .slice a n c := by
  rcases h.2 with ⟨rfl, rfl⟩ | ⟨g, cap, _, rfl, _⟩
  · exact ⟨_, _, rfl⟩
  · exact ⟨_, _, rfl⟩
theorem own_ne {w : World} {base : Nat} {e : TypeId} {size : Nat} {v : Value} {n : Nat} {xs : List Value} (h : w.ownsRow base e size v n xs) {b : Nat} (hb : b < base) : some b ≠ v.ownBlock := fun he => by
  have := (h.lt b he.symm).1
  omega
set_option maxRecDepth 100000 in
set_option maxHeartbeats 4000000 in
theorem of_any (a : Int) (ha : InR a) (w : World) : Calls Try.prog 30 #[.int .i64 a] w fun e w' => ∃ v, e = .returned v ∧ NumNew w.heap.size w' v a ∧ Below w.heap.size w w' := by
  obtain ⟨i0, hi, hz0, hz1, hz2⟩ := info_parts info_int
  have hlen : (digs a.natAbs).length ≤ 20 := digs_len (by unfold InR at ha; omega)
  have hfin : Hid (∀ wr s, IntsAt wr s (digs a.natAbs) → Fresh w.heap.size s → NumNew w.heap.size wr (.agg #[.bool (decide (a < 0)), s]) a) := Lib.hid fun wr s h1 h2 => ⟨s, rfl, h1, h2⟩
  generalize hdd : digs a.natAbs = D at *
  replace hdd := Lib.hid hdd
  generalize hbb : decide (a < 0) = bl at *
  replace hbb := Lib.hid hbb
  go_enter Try.func30, Try.ntmps30
  go_wp2_with fail
  go_loopw [0, 4] (fun v0 _ wr => ∃ (z : Int) (out : List Int) (s : Value), v0 = .int .i64 z ∧ (-9223372036854775808 ≤ z ∧ z ≤ 9223372036854775807) ∧ Hid (D = out ++ digs z.natAbs) ∧ Hid (Blk wr w.heap.size #[.bool false, .slice none 0 0] 39) ∧ Hid (Blk wr (w.heap.size + 1) #[.bool bl, s] 39) ∧ Hid (wr.ownsRow (w.heap.size + 2) 3 1 s out.length (intV out)) ∧ Hid (Below w.heap.size w wr) ∧ w.heap.size + 2 ≤ wr.heap.size) (fun v0 _ _ => (intOf v0).natAbs)
  case atStart =>
    refine ⟨a, [], .slice none 0 0, rfl, ha, Lib.hid (by simp [hdd.out]), Lib.hid ((Blk.new _ _ _).alloc _), Lib.hid ?_, Lib.hid (World.ownsRow_nil _ _ _ _), Lib.hid (((Below.refl _ w).alloc (Nat.le_refl _) _).alloc (by simp) _), by simp⟩
    rw [hbb.out]
    have := Blk.new (w.alloc (.cells #[.bool false, .slice none 0 0] 39)) #[.bool bl, .slice none 0 0] 39
    simpa using this
  case round =>
    obtain ⟨z, out, s, rfl, ⟨hz1', hz2'⟩, hD, hb0, hb1, hown, hB, hsz⟩ := hrel
    have c1 : wr.cell? ⟨w.heap.size + 1, 1, none⟩ = some s := hb1.out.cell rfl
    by_cases hz : z = 0
    · subst hz
      have hI : IntsAt wr s D := by
        have := hD.out
        rw [show Int.natAbs 0 = 0 from rfl, digs_zero, List.append_nil] at this
        rw [this]
        exact IntsAt.own hown.out
      replace hI := Lib.hid hI
      have hFr := Lib.hid (Fresh.own hown.out)
      have c0 : wr.cell? ⟨w.heap.size + 1, 0, none⟩ = some (.bool bl) := hb1.out.cell rfl
      have f0 := hb0.out.free 0
      have f1 := hb0.out.free 1
      have d0 : wr.cell? ⟨w.heap.size, 0, none⟩ = some (.bool false) := hb0.out.cell rfl
      have d1 : wr.cell? ⟨w.heap.size, 1, none⟩ = some (.slice none 0 0) := hb0.out.cell rfl
      obtain ⟨A3, C3, rfl⟩ := own_shape hown.out
      go_wp2_with fail
      refine bodyPost_ret (v := .agg #[.bool bl, .slice A3 out.length C3]) (results_cell_row (fn := Try.f30) rfl _ _ w.heap.size 39 _ (0, 0) _ rfl (heap_setCell_same _ _ _ _ _ _ (heap_setCell_same _ _ _ _ _ _ hb0.out.eq)) Try.underlying39 rfl (by kernel_rfl)) rfl ?_
      exact ⟨_, rfl, hfin.out _ _ ((hI.out.setCell hFr.out (by simp) _).setCell hFr.out (by simp) _) (hFr.out.mono (by omega)), (hB.out.setCell (by simp) _).setCell (by simp) _⟩
    · have tz : (z != 0) = true := by rw [bne_iff_ne]; exact hz
      obtain ⟨q1, q2, q3, q4⟩ := tdiv10 z
      have hst := digs_step hz out
      have hol : out.length < 20 := by
        have := congrArg List.length hD.out
        rw [hst, List.length_append, List.length_append, List.length_singleton] at this
        omega
      have hwt : wrap64 (z.tdiv 10) = z.tdiv 10 := IntWalk.wrap64_in _ (by omega)
      have hwm : wrap64 (z.tmod 10) = z.tmod 10 := IntWalk.wrap64_in _ (by omega)
      have hwn : wrap64 (-z.tmod 10) = -z.tmod 10 := IntWalk.wrap64_in _ (by omega)
      by_cases hneg : z.tmod 10 < 0
      · have tn : decide (z.tmod 10 < 0) = true := decide_eq_true hneg
        have hdv : ((z.natAbs % 10 : Nat) : Int) = (-z.tmod 10) := by omega
        have hmeas : (z.tdiv 10).natAbs < z.natAbs := by omega
        have hin2 : -9223372036854775808 ≤ z.tdiv 10 ∧ z.tdiv 10 ≤ 9223372036854775807 := by omega
        rw [hdv] at hst
        replace hst := Lib.hid hst
        replace hdv := Lib.hid hdv
        replace q1 := Lib.hid q1
        clear q2 q3 q4 hz
        go_wp2_with (at_builtin; refine wpList_append_own _ rfl _ _ 35 rfl (w.heap.size + 2) 3 i0 (.int .i64 0) 1 8 Try.underlying35 hi hz0 hz1 hz2 rfl (by decide) s out.length (intV out) rfl (hown.out.alloc _) ⟨wr.heap.size, 0, none⟩ 1 1 [.int .i64 _] rfl rfl (cell_one_new _ _ _) (by simp [Value.oneCell']) (by unfold maxLen; omega) (by omega) (by simp; omega) ?_; intro v' w3 hown' hgrow _; (have hb3 := (hb1.out.alloc (.cells #[.int .i64 (-z.tmod 10)] 3)).kept hgrow (own_ne hown.out (by omega))); (have hb0' := (hb0.out.alloc (.cells #[.int .i64 (-z.tmod 10)] 3)).kept hgrow (own_ne hown.out (by omega))); (have c3 : w3.cell? ⟨w.heap.size + 1, 1, none⟩ = some s := hb3.cell rfl); (have f3 := hb3.free 1); (obtain ⟨A3, C3, rfl⟩ := own_shape hown'); (replace hb3 := Lib.hid hb3); (replace hb0' := Lib.hid hb0'); (replace hown' := Lib.hid hown'); (replace hgrow := Lib.hid hgrow))
        have hB3 := (hB.out.alloc (by omega) (.cells #[.int .i64 (-z.tmod 10)] 3)).grown hgrow.out (by simp; omega) (fun k e => Nat.le_trans (by omega) (hown.out.lt k e).1)
        have hs3 := hgrow.out.size
        simp at hs3
        refine ⟨⟨z.tdiv 10, out ++ [(-z.tmod 10)], _, rfl, hin2, Lib.hid ?_, Lib.hid (hb0'.out.other (by simp) _), Lib.hid (hb3.out.set 1 _), Lib.hid ?_, Lib.hid (hB3.setCell (by simp) _), ?_⟩, ?_⟩
        · rw [hD.out, hst.out, q1.out]
        · refine ownsRow_setCell_below ?_ (by simp) _
          simpa [intV] using hown'.out
        · simp [World.setCell]; omega
        · simpa [intOf] using hmeas
      · have tn : decide (z.tmod 10 < 0) = false := decide_eq_false hneg
        have hdv : ((z.natAbs % 10 : Nat) : Int) = (z.tmod 10) := by omega
        have hmeas : (z.tdiv 10).natAbs < z.natAbs := by omega
        have hin2 : -9223372036854775808 ≤ z.tdiv 10 ∧ z.tdiv 10 ≤ 9223372036854775807 := by omega
        rw [hdv] at hst
        replace hst := Lib.hid hst
        replace hdv := Lib.hid hdv
        replace q1 := Lib.hid q1
        clear q2 q3 q4 hz
        go_wp2_with (at_builtin; refine wpList_append_own _ rfl _ _ 35 rfl (w.heap.size + 2) 3 i0 (.int .i64 0) 1 8 Try.underlying35 hi hz0 hz1 hz2 rfl (by decide) s out.length (intV out) rfl (hown.out.alloc _) ⟨wr.heap.size, 0, none⟩ 1 1 [.int .i64 _] rfl rfl (cell_one_new _ _ _) (by simp [Value.oneCell']) (by unfold maxLen; omega) (by omega) (by simp; omega) ?_; intro v' w3 hown' hgrow _; (have hb3 := (hb1.out.alloc (.cells #[.int .i64 (z.tmod 10)] 3)).kept hgrow (own_ne hown.out (by omega))); (have hb0' := (hb0.out.alloc (.cells #[.int .i64 (z.tmod 10)] 3)).kept hgrow (own_ne hown.out (by omega))); (have c3 : w3.cell? ⟨w.heap.size + 1, 1, none⟩ = some s := hb3.cell rfl); (have f3 := hb3.free 1); (obtain ⟨A3, C3, rfl⟩ := own_shape hown'); (replace hb3 := Lib.hid hb3); (replace hb0' := Lib.hid hb0'); (replace hown' := Lib.hid hown'); (replace hgrow := Lib.hid hgrow))
        have hB3 := (hB.out.alloc (by omega) (.cells #[.int .i64 (z.tmod 10)] 3)).grown hgrow.out (by simp; omega) (fun k e => Nat.le_trans (by omega) (hown.out.lt k e).1)
        have hs3 := hgrow.out.size
        simp at hs3
        refine ⟨⟨z.tdiv 10, out ++ [(z.tmod 10)], _, rfl, hin2, Lib.hid ?_, Lib.hid (hb0'.out.other (by simp) _), Lib.hid (hb3.out.set 1 _), Lib.hid ?_, Lib.hid (hB3.setCell (by simp) _), ?_⟩, ?_⟩
        · rw [hD.out, hst.out, q1.out]
        · refine ownsRow_setCell_below ?_ (by simp) _
          simpa [intV] using hown'.out
        · simp [World.setCell]; omega
        · simpa [intOf] using hmeas
end Go.Proofs.Ytacmheeodhjlbaa
