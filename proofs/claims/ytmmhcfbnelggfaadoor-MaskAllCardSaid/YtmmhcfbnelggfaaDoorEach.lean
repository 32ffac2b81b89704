/- The iterator Each and the list Numbers of a mask. -/
import Derived.Test.YtmmhcfbnelggfaaDoorDo
import Derived.RangeFuncBox
import Derived.RangeFuncNested
import Derived.RangeFuncBound
import Derived.RangeFuncCalls
import Derived.RangeFuncLeaves
import Derived.Shelf.Abstract
import Derived.Shelf.RegionOpen
import Derived.WalkKit
import Derived.OwnWalkIn
import Derived.TacticsInMore
import Derived.LoopNIn
import Derived.LoopIn
namespace Go.Proofs.YtmmhcfbnelggfaaDoor
open Go.RowKit Go.Shelf
attribute [local go_sem] Oper.semAt_some

/-- The numbers of a word, in order. -/
def nums (m : Nat) : List Nat := numsTo m.testBit 64
theorem nums_length (m : Nat) : (nums m).length = cnt m := numsTo_length _ _
theorem nums_le (m : Nat) : (nums m).length ≤ 64 := by rw [nums_length]; exact rankTo_le _ _
theorem nums_zero : nums 0 = [] := by
  have h : ∀ n, numsTo (Nat.testBit 0) n = [] := fun n => by
    induction n with
    | zero => rfl
    | succ n ih => rw [numsTo_succ, ih]; simp
  exact h 64
theorem nums_low {m : Nat} (h0 : m ≠ 0) (h : m < 18446744073709551616) : nums m = Lib.ctz 64 m :: nums (m &&& (m - 1)) := by
  have ⟨h1, h2, h3, h4⟩ := low_spec m h0 h
  generalize Lib.ctz 64 m = c at *
  have key : ∀ n, (n ≤ c → numsTo m.testBit n = [] ∧ numsTo (m &&& (m - 1)).testBit n = []) ∧ (c < n → numsTo m.testBit n = c :: numsTo (m &&& (m - 1)).testBit n) := fun n => by
    induction n with
    | zero => exact ⟨fun _ => ⟨rfl, rfl⟩, fun h => by omega⟩
    | succ n ih =>
      rw [numsTo_succ, numsTo_succ, h4 n]
      refine ⟨fun hn => ?_, fun hn => ?_⟩
      · obtain ⟨e1, e2⟩ := ih.1 (by omega)
        rw [e1, e2, h3 n (by omega)]
        simp
      · rcases Nat.lt_or_ge c n with h5 | h5
        · rw [ih.2 h5]
          have : decide (n ≠ c) = true := by simp; omega
          rw [this, Bool.and_true]
          rfl
        · obtain rfl : n = c := by omega
          obtain ⟨e1, e2⟩ := ih.1 (Nat.le_refl _)
          rw [e1, e2, h2]
          simp
  exact (key 64).2 h1
theorem cell_u64 {w : World} {b : Nat} {m : Nat} {n0 : Nat} {w' : World} (hB : Below n0 w w') (hb : b < n0) (h : w.cell? ⟨b, 0, none⟩ = some (.int .u64 m)) : w'.cell? ⟨b, 0, none⟩ = some (.int .u64 m) := (hB.cell (p := ⟨b, 0, none⟩) hb).trans h

set_option maxRecDepth 100000 in
set_option maxHeartbeats 1000000 in
theorem each1_in (n : Nat) (hn : 1 ≤ n) (l Bn n₀ m : Nat) (hm : m < 18446744073709551616) (J Jx : List Nat → World → Prop)
    (hY : ∀ pre (x : Nat) W, J pre W → pre.length < (nums m).length → YieldAt Fence.wide (n - 1) Tryd.prog l #[.int .i64 x] W fun e W' =>
      (e = .returned (.bool true) ∧ J (pre ++ [x]) W' ∧ Below n₀ W W') ∨ (e = .returned (.bool false) ∧ Jx (pre ++ [x]) W'))
    (W : World) (hBn : W.cell? ⟨Bn, 0, none⟩ = some (.int .u64 m)) (hT : Tab W) (hT0 : 0 < n₀) (h0 : J [] W) :
    CallsIn Fence.wide n Tryd.prog 38 #[.func (.yield l) #[] #[], .pointer (some ⟨Bn, 0, none⟩)] W fun e W' => (∃ v, e = .returned v) ∧
      ((∃ ys, ys = nums m ∧ J ys W') ∨ (∃ pre, pre <+: nums m ∧ Jx pre W')) := by
  replace hT := Lib.hid hT
  refine callsIn_of_wp Tryd.func38 rfl trivial ?_ rfl
  simp only [Tryd.ntmps38, List.size_toArray, List.length_cons, List.length_nil, Nat.reduceAdd, Nat.reduceSub, Array.replicate_succ, Array.replicate_zero, List.push_toArray, List.append_toArray, List.nil_append, List.cons_append]
  gi_wp2
  gi_loopw [3] (fun s wr => ∃ (r : Nat) (pre : List Nat), s = .int .u64 r ∧ r < 18446744073709551616 ∧ nums m = pre ++ nums r ∧ J pre wr ∧ Tab wr)
    (fun s _ => (intOf s).toNat)
  case atStart => exact ⟨m, [], rfl, hm, rfl, h0, hT.out⟩
  case round =>
    obtain ⟨r, pre, rfl, hr, hpre, hJ, hTr⟩ := hrel
    by_cases hz : r = 0
    · have hne : ((r : Int) != 0) = false := by simp [hz]
      rw [hz, nums_zero, List.append_nil] at hpre
      replace hz := Lib.hid hz
      replace hpre := Lib.hid hpre
      replace hTr := Lib.hid hTr
      gi_wp2
      go_end0
      exact ⟨⟨_, rfl⟩, .inl ⟨_, rfl, by rw [hpre.out]; exact hJ⟩⟩
    · have hne : ((r : Int) != 0) = true := by simp; omega
      have hl := nums_low hz hr
      have hF := first_low r hr hz wr hTr
      have hlt := and_pred_lt r hr
      have hle : r &&& (r - 1) ≤ r - 1 := Nat.and_le_right
      have e : bits BinOp.and IntKind.u64 (r : Int) ((r : Int) - 1) = ((r &&& (r - 1) : Nat) : Int) := by
        rw [← bits_and_u64_nat _ _ hr (by omega)]; congr 1; omega
      rw [hl] at hpre
      generalize Lib.ctz 64 r = x at *
      generalize r &&& (r - 1) = r2 at *
      obtain ⟨fn, tmps, assign, body, hy, hR⟩ := hY pre x wr hJ (by rw [hpre]; simp)
      have hp2 : nums m = (pre ++ [x]) ++ nums r2 := by rw [hpre]; simp
      have hpx : pre ++ [x] <+: nums m := ⟨nums r2, hp2.symm⟩
      have hm1 : (1 : Int) ≤ (r : Int) := by omega
      replace hpx := Lib.hid hpx
      replace hp2 := Lib.hid hp2
      replace hpre := Lib.hid hpre
      replace hl := Lib.hid hl
      replace hz := Lib.hid hz
      replace hF := Lib.hid hF
      have hTB := fun W' (hk : Below n₀ wr W') => hTr.below hk hT0
      replace hTB := Lib.hid hTB
      replace hTr := Lib.hid hTr
      gi_wp2_with fail
      refine ⟨trivial, callsIn_wide.2 (hF.out.mono ?_)⟩
      rintro e' W2 ⟨rfl, rfl⟩
      gi_wp2
      refine hR.mono ?_
      rintro e' W3 (⟨rfl, hJ3, hk3⟩ | ⟨rfl, hJx3⟩)
      · gi_wp2
        exact ⟨⟨r2, pre ++ [x], rfl, hlt, hp2.out, hJ3, hTB.out _ hk3⟩, by simp only [intOf, Int.toNat_natCast]; have := hz.out; omega⟩
      · gi_wp2
        refine bodyPost_ret (results_none rfl _ _ _) rfl ?_
        exact ⟨⟨_, rfl⟩, .inr ⟨_, hpx.out, hJx3⟩⟩

set_option maxHeartbeats 1000000 in
theorem each_in (n : Nat) (m : Nat) (w : World) :
    CallsIn Fence.wide n Tryd.prog 14 #[.int .u64 m] w fun e w' => e = .returned (.func (.func 38) #[] #[.pointer (some ⟨w.heap.size, 0, none⟩)]) ∧ w' = w.alloc (.cells #[.int .u64 m] 24) := by
  refine callsIn_of_wp Tryd.func14 rfl trivial ?_ rfl
  simp only [Tryd.ntmps14, List.size_toArray, List.length_cons, List.length_nil, Nat.reduceAdd, Nat.reduceSub, Array.replicate_succ, Array.replicate_zero, List.push_toArray, List.append_toArray, List.nil_append, List.cons_append]
  gi_wp2
  go_ret
  exact ⟨rfl, rfl⟩

theorem each_stops (n : Nat) (hn : 1 ≤ n) (Bn n₀ m : Nat) (hm : m < 18446744073709551616) (w : World) (hBn : Bn < w.heap.size)
    (hc : w.cell? ⟨Bn, 0, none⟩ = some (.int .u64 m)) (hT : Tab w) (hT0 : 0 < n₀) :
    SeqStopsK Fence.wide n Tryd.prog 38 #[.pointer (some ⟨Bn, 0, none⟩)] (fun x : Nat => #[Value.int .i64 x]) (Below n₀) (fun ys => ys = nums m) (fun pre => pre <+: nums m) (nums m).length w := fun l J Jx W hW _ _ hY h0 =>
  each1_in n hn l Bn n₀ m hm J Jx hY W ((hW.cell (p := ⟨Bn, 0, none⟩) hBn).trans hc) (hT.belowAll hW) hT0 h0

set_option maxRecDepth 100000 in
set_option maxHeartbeats 2000000 in
/-- The numbers of a mask, in new memory. -/
theorem mnums_in (n : Nat) (hn : 3 ≤ n) (m : Nat) (hm : m < 18446744073709551616) (w : World) (hT : Tab w) :
    CallsIn Fence.wide n Tryd.prog 15 #[.int .u64 m] w fun e W' => ∃ v, e = .returned v ∧ W'.ownsRow w.heap.size 3 1 v (nums m).length (intsV (nums m)) ∧ Below w.heap.size w W' := by
  have h1 : 1 ≤ n := by omega
  have hlt0 := hT.lt
  replace hT := Lib.hid hT
  obtain ⟨i0, hi, hz0, hz1, hz2⟩ := info_parts info_int
  refine callsIn_of_wp_marks Tryd.func15 rfl trivial ?_ rfl
  simp only [Tryd.ntmps15, List.size_toArray, List.length_cons, List.length_nil, Nat.reduceAdd, Nat.reduceSub, Array.replicate_succ, Array.replicate_zero, List.push_toArray, List.append_toArray, List.nil_append, List.cons_append]
  gi_wp2_with fail
  refine ⟨trivial, (each_in (n - 1) m _).mono ?_⟩
  rintro e w' ⟨rfl, rfl⟩
  gi_wp2_with fail
  have bO := Boxed.new w 22 (.slice none 0 0)
  have bN := Boxed.new (w.alloc (.cells #[.slice none 0 0] 22)) 24 (.int .u64 m)
  rw [World.size_alloc] at bN
  have hB0 : Below w.heap.size w ((w.alloc (.cells #[.slice none 0 0] 22)).alloc (.cells #[.int .u64 m] 24)) := ((Below.refl _ w).alloc (Nat.le_refl _) _).alloc (by simp) _
  refine wpIn_rangeFunc_ownG rfl h1 (gf := 38) (lb := #[.pointer (some ⟨w.heap.size + 1, 0, none⟩)]) rfl trivial (enters_of Tryd.func38 (by kernel_rfl) rfl)
    (each_stops (n - 1) (by omega) (w.heap.size + 1) w.heap.size m hm _ (by simp) bN.cell (hT.out.belowAll hB0) hlt0) belowK_t (belowK_b (by simp; omega)) (Below.refl _ _) (fun _ => rfl)
    (fun pre W => (∃ v, Boxed W w.heap.size 22 v ∧ W.ownsRow w.heap.size 3 1 v pre.length (intsV pre) ∧ (v = .slice none 0 0 ↔ pre = [])) ∧ Below w.heap.size w W)
    (fun _ _ _ => False)
    (OwnFrom.and (Own.from (holdsRow_own w.heap.size w.heap.size 22 3 1 (fun pre : List Nat => pre.length) (fun pre => intsV pre) (fun pre v => v = .slice none 0 0 ↔ pre = [])) _) (ownFrom_below (Nat.le_refl _) (by simp; omega)))
    (fun _ _ _ _ _ hs _ _ => hs)
    ⟨⟨_, bO.alloc _, World.ownsRow_nil _ _ _ _, by simp⟩, hB0⟩
    (fun x => { tmps := #[.int .u64 m, undef, .slice none 0 0, .pointer (some ⟨w.heap.size, 0, none⟩), .int .i64 x, .int .u64 m, .func (.func 38) #[] #[.pointer (some ⟨w.heap.size + 1, 0, none⟩)], .int .i64 x, undef, undef, undef, undef, undef], defers := [] }) ?assign ?body ?done ?stop
  case assign =>
    intro l x W K hK
    gi_wp2
    exact hK
  case body =>
    rintro l pre x W ⟨⟨v, hv, hrow, hnil⟩, hB⟩ hlt
    have hc := hv.cell
    have hpl := nums_le m
    replace hnil := Lib.hid hnil
    gi_wp2_with (gi_at_builtin; refine wpListIn_append_own _ rfl _ _ 22 rfl w.heap.size 3 i0 (.int .i64 0) 1 8 Tryd.underlying22 hi hz0 hz1 hz2 rfl (by decide) _ _ _ rfl (hrow.alloc _) ⟨W.heap.size, 0, none⟩ 1 1 [.int .i64 x] rfl rfl (cell_one_new _ _ _) (by simp [Value.oneCell']) (by unfold maxLen; omega) (by omega) (by have := hB.size; simp; omega) ?_; intro v' w1 hown' hgrow _; obtain ⟨g', cap', rfl⟩ := ownsRow_succ hown'; obtain ⟨hv1, hv2, hr2, hk2, hb2⟩ := hv.appended (by decide) hrow hB.size (Nat.le_refl _) hown' hgrow; have hc1 := hv1.cell; have hf1 := hv1.frozen)
    exact ⟨hk2.from _, hb2, ⟨_, hv2, by simpa [intsV] using hr2, by simp⟩, hB.trans hb2⟩
  case done =>
    rintro D ys W hD rfl ⟨⟨v, hv, hrow, hnil⟩, hB⟩ hK
    have hc := hv.cell
    replace hnil := Lib.hid hnil
    gi_wp2
    refine ⟨by simp, .inl ⟨_, _, rfl, run_takeDeferred hK, ?_⟩⟩
    exact ⟨_, results_tmp rfl _ _ _, v, rfl, ownsRow_putObj hrow _ hK rfl, hB.trans (belowK_b (w := w) (Nat.le_refl _) W D _ _ (by simp at hD; omega) hK rfl rfl)⟩
  case stop =>
    rintro D c pre W _ _ h _
    exact h.elim
end Go.Proofs.YtmmhcfbnelggfaaDoor
