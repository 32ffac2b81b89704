/- The walk of MaskAll: a mask has just as many subsets as there must be, and lists are new memory. -/
import Derived.Test.YtmmhcfbnelggfaaDoorQuiet
import Derived.Test.YtmmhcfbnelggfaaDoorGrows
import Derived.Deep.RegionHeld3
import Derived.IntWalk
import Derived.Sort.CutIn
namespace Go.Proofs.YtmmhcfbnelggfaaDoor
open Go.RowKit Go.Shelf Go.Sort
attribute [local go_sem] Oper.semAt_some

theorem subs_pre {m N : Nat} {pre : List Nat} {x : Nat} (h : pre ++ [x] <+: subsTo m N) : pre = subsTo m pre.length ∧ x = subW m pre.length ∧ pre.length < N := by
  have hl := h.length_le
  rw [subsTo_length, List.length_append, List.length_singleton] at hl
  have h1 := List.prefix_iff_eq_take.1 h
  have e : pre ++ [x] = subsTo m (pre.length + 1) := by
    rw [h1]
    simp only [List.length_append, List.length_singleton]
    unfold subsTo
    rw [← List.map_take, List.take_range, Nat.min_eq_left hl]
  rw [subsTo_succ] at e
  have := List.append_inj' e rfl
  exact ⟨this.1, by simpa using this.2, by omega⟩
theorem subW_in {m : Nat} (hm : m < 18446744073709551616) (n : Nat) : andn (subW m n) m = 0 := by
  apply Nat.eq_of_testBit_eq; intro i
  rw [andn_bit (subW_lt m n) hm, subW, word_bit, Nat.zero_testBit, subOf]
  cases m.testBit i <;> simp
theorem less_in {m x : Nat} (hm : m < 18446744073709551616) (hx : x < 18446744073709551616) : andn (andn m x) m = 0 := by
  apply Nat.eq_of_testBit_eq; intro i
  rw [andn_bit (andn_lt _ hm) hm, andn_bit hm hx, Nat.zero_testBit]
  cases m.testBit i <;> simp
/-- The last of them, or 0. -/
def lastOf (l : List Nat) : Nat := l.getLastD 0
theorem lastOf_snoc (l : List Nat) (x : Nat) : lastOf (l ++ [x]) = x := by simp [lastOf]
theorem lastOf_subs (m k : Nat) : lastOf (subsTo m (k + 1)) = subW m k := by rw [subsTo_succ, lastOf_snoc]
theorem subs_not_nil (b : Nat) (w : World) : (Go.binOp .eql 54 (.func (.func 42) #[] #[.pointer (some ⟨b, 0, none⟩)]) .nilFunc).run Tryd.prog w = .ok (.bool false) w := by kernel_rfl

/-- What stands in the boxes while the subsets are told. -/
def AllI (n0 g m : Nat) (w : World) (pre : List Nat) (W : World) : Prop :=
  (Boxed W n0 4 (.bool false) ∧ Boxed W g 24 (.int .u64 m) ∧ Boxed W (g + 1) 3 (.int .i64 pre.length) ∧ Boxed W (g + 1 + 1) 24 (.int .u64 (lastOf pre : Nat)) ∧ lastOf pre < 18446744073709551616) ∧ Below n0 w W
theorem boxed_own {W W' : World} {B : Nat} {t : TypeId} {v : Value} {row : Option Nat} (h : Boxed W B t v) (hg : W.grownBy W' row) (hr : ∀ r, row = some r → ∃ o : Obj, W.heap[r]? = some o ∧ o.isCells = false) : Boxed W' B t v :=
  h.kept hg (fun e => by obtain ⟨o, ho, hc⟩ := hr B e.symm; rw [show W.heap[B]? = _ from h] at ho; cases ho; cases hc)
theorem allI_own {n0 g m n : Nat} {w : World} (h0 : n0 ≤ w.heap.size) (hn : n0 ≤ n) : OwnFrom n (AllI n0 g m w) := by
  rintro pre W W' row ⟨⟨h1, h2, h3, h4, h5⟩, hB⟩ hg hr
  have hr' : ∀ r, row = some r → ∃ o : Obj, W.heap[r]? = some o ∧ o.isCells = false := fun r e => (hr r e).2
  exact ⟨⟨boxed_own h1 hg hr', boxed_own h2 hg hr', boxed_own h3 hg hr', boxed_own h4 hg hr', h5⟩, hB.grown hg (by have := hB.size; omega) (fun k e => by have := (hr k e).1; omega)⟩

theorem from_drewN {B n : Nat} {W W' : World} (h : KeepsFrom B (W.drewN n) W') : KeepsFrom B W W' := ⟨h.1, h.2⟩
theorem allI_next {n0 g m L x n : Nat} {w W : World} {pre : List Nat} {la : Nat} (b0 : Boxed W n0 4 (.bool false)) (b1 : Boxed W g 24 (.int .u64 m)) (b2 : Boxed W (g + 1) 3 (.int .i64 L)) (b3 : Boxed W (g + 1 + 1) 24 (.int .u64 la))
    (hB : Below n0 w W) (hg : n0 + 1 ≤ g) (hx : x < 18446744073709551616) (hL : pre.length = L) : AllI n0 g m w (pre ++ [x]) (((W.drewN n).setCell ⟨g + 1 + 1, 0, none⟩ (.int .u64 x)).setCell ⟨g + 1, 0, none⟩ (.int .i64 ((L : Int) + 1))) ∧
    KeepBlk (g + 1 + 1 + 1) W (((W.drewN n).setCell ⟨g + 1 + 1, 0, none⟩ (.int .u64 x)).setCell ⟨g + 1, 0, none⟩ (.int .i64 ((L : Int) + 1))) ∧ ∀ B, KeepsFrom B W (((W.drewN n).setCell ⟨g + 1 + 1, 0, none⟩ (.int .u64 x)).setCell ⟨g + 1, 0, none⟩ (.int .i64 ((L : Int) + 1))) := by
  have other : ∀ {b : Nat} {t : TypeId} {v : Value} {X : World} (a : Addr) (u : Value), Boxed X b t v → b ≠ a.block → Boxed (X.setCell a u) b t v := fun a u h hne => (heap_setCell_other _ a _ u hne).trans h
  refine ⟨⟨⟨?_, ?_, ?_, ?_, ?_⟩, ?_⟩, ?_, ?_⟩
  · exact other _ _ (other _ _ (show Boxed (W.drewN n) n0 _ _ from b0) (by simp; omega)) (by simp; omega)
  · exact other _ _ (other _ _ (show Boxed (W.drewN n) g _ _ from b1) (by simp; omega)) (by simp)
  · rw [List.length_append, hL]
    have := Boxed.set (.int .i64 ((L : Int) + 1)) (other ⟨g + 1 + 1, 0, none⟩ (.int .u64 x) (show Boxed (W.drewN n) (g + 1) _ _ from b2) (by simp))
    simpa using this
  · rw [lastOf_snoc]
    exact other _ _ (Boxed.set _ (show Boxed (W.drewN n) (g + 1 + 1) _ _ from b3)) (by simp)
  · rw [lastOf_snoc]; exact hx
  · exact ((below_drawn hB n).setCell (by simp; omega) _).setCell (by simp; omega) _
  · show _ = _
    rw [heap_setCell_other _ _ _ _ (by simp; omega), heap_setCell_other _ _ _ _ (by simp)]; rfl
  · exact fun B => from_drewN (((KeepsOthers.setCell (W.drewN n) _ _).trans (KeepsOthers.setCell _ _ _)).from _)
set_option maxRecDepth 100000 in
set_option maxHeartbeats 8000000 in
theorem maskAll_in (m b : Nat) (hm : m < 18446744073709551616) (hb : b < 18446744073709551616) (w : World) (hT : Tab w) :
    CallsIn Fence.wide 9 Tryd.prog 6 #[.int .u64 m, .int .u64 b] w fun e w' => e = .returned (.bool true) ∧ Below w.heap.size w w' := by
  have hlt0 := hT.lt
  have hTw := Lib.hid hT
  have hT0 := hT.alloc (.cells #[.bool false] 4)
  replace hT0 := Lib.hid hT0
  refine callsIn_of_wp_marks Tryd.func6 rfl trivial ?_ rfl
  simp only [Tryd.ntmps6, List.size_toArray, List.length_cons, List.length_nil, Nat.reduceAdd, Nat.reduceSub, Array.replicate_succ, Array.replicate_zero, List.push_toArray, List.append_toArray, List.nil_append, List.cons_append]
  gi_wp2_with fail
  refine ⟨trivial, (awake_in 8 (by omega) _ hT0.out).mono ?_⟩
  rintro e w1 ⟨rfl, hB1⟩
  have hbR : Boxed w1 w.heap.size 4 (.bool false) := (hB1.block _ (by simp)).trans (Boxed.new w _ _)
  have hT1 := hT0.out.belowAll hB1
  have hs1 := hB1.size
  rw [World.size_alloc] at hs1
  have hB1' : Below w.heap.size w w1 := ((Below.refl _ w).alloc (Nat.le_refl _) _).trans (hB1.mono (by simp))
  clear hB1 hT0 hT
  gi_wp2_with fail
  refine ⟨trivial, (subs_in Fence.wide 8 trivial rfl m _).mono ?_⟩
  rintro e w2 ⟨rfl, rfl⟩
  obtain ⟨g, hg⟩ : ∃ g, w1.heap.size = g := ⟨_, rfl⟩
  have hW0 : Hid True := Lib.hid trivial
  have q1 : Boxed ((((w1.alloc (.cells #[.int .u64 m] 24)).alloc (.cells #[.int .i64 0] 3)).alloc (.cells #[.int .u64 0] 24)).alloc (.cells #[.int .u64 m] 24)) g 24 (.int .u64 m) := hg ▸ (((Boxed.new w1 _ _).alloc _).alloc _).alloc _
  have q2 : Boxed ((((w1.alloc (.cells #[.int .u64 m] 24)).alloc (.cells #[.int .i64 0] 3)).alloc (.cells #[.int .u64 0] 24)).alloc (.cells #[.int .u64 m] 24)) (g + 1) 3 (.int .i64 0) := by
    have := ((Boxed.new (w1.alloc (.cells #[.int .u64 m] 24)) 3 (.int .i64 0)).alloc (.cells #[.int .u64 0] 24)).alloc (.cells #[.int .u64 m] 24)
    simp only [World.size_alloc, hg] at this; exact this
  have q3 : Boxed ((((w1.alloc (.cells #[.int .u64 m] 24)).alloc (.cells #[.int .i64 0] 3)).alloc (.cells #[.int .u64 0] 24)).alloc (.cells #[.int .u64 m] 24)) (g + 1 + 1) 24 (.int .u64 0) := by
    have := (Boxed.new ((w1.alloc (.cells #[.int .u64 m] 24)).alloc (.cells #[.int .i64 0] 3)) 24 (.int .u64 0)).alloc (.cells #[.int .u64 m] 24)
    simp only [World.size_alloc, hg] at this; exact this
  have q4 : Boxed ((((w1.alloc (.cells #[.int .u64 m] 24)).alloc (.cells #[.int .i64 0] 3)).alloc (.cells #[.int .u64 0] 24)).alloc (.cells #[.int .u64 m] 24)) (g + 1 + 1 + 1) 24 (.int .u64 m) := by
    have := Boxed.new (((w1.alloc (.cells #[.int .u64 m] 24)).alloc (.cells #[.int .i64 0] 3)).alloc (.cells #[.int .u64 0] 24)) 24 (.int .u64 m)
    simp only [World.size_alloc, hg] at this; exact this
  have q0 := (((hbR.alloc (.cells #[.int .u64 m] 24)).alloc (.cells #[.int .i64 0] 3)).alloc (.cells #[.int .u64 0] 24)).alloc (.cells #[.int .u64 m] 24)
  have hB2 : Below w.heap.size w ((((w1.alloc (.cells #[.int .u64 m] 24)).alloc (.cells #[.int .i64 0] 3)).alloc (.cells #[.int .u64 0] 24)).alloc (.cells #[.int .u64 m] 24)) := (((hB1'.alloc (by omega) _).alloc (by simp; omega) _).alloc (by simp; omega) _).alloc (by simp; omega) _
  have hT2 := (((hT1.alloc (.cells #[.int .u64 m] 24)).alloc (.cells #[.int .i64 0] 3)).alloc (.cells #[.int .u64 0] 24)).alloc (.cells #[.int .u64 m] 24)
  have hsz : ((((w1.alloc (.cells #[.int .u64 m] 24)).alloc (.cells #[.int .i64 0] 3)).alloc (.cells #[.int .u64 0] 24)).alloc (.cells #[.int .u64 m] 24)).heap.size = g + 4 := by simp; omega
  rw [hg] at hs1
  gi_wp2_with fail
  clear hbR hT1 hB1' hg
  generalize (((w1.alloc (.cells #[.int .u64 m] 24)).alloc (.cells #[.int .i64 0] 3)).alloc (.cells #[.int .u64 0] 24)).alloc (.cells #[.int .u64 m] 24) = W0 at *
  refine wpIn_range_subs (p := 23) (s := 8) 0 m (g + 1 + 1 + 1) hm rfl q4
    (fun pre W => AllI w.heap.size g m w pre W ∧ (cnt m ≤ 10 ∨ pre.length < 100)) (fun pre W => AllI w.heap.size g m w pre W ∧ 10 < cnt m ∧ pre.length = 100)
    (OwnFrom.and (allI_own (Nat.le_refl _) (by omega)) (own_const _)) (OwnFrom.and (allI_own (Nat.le_refl _) (by omega)) (own_const _))
    ⟨⟨⟨q0, q1, q2, q3, by simp [lastOf]⟩, hB2⟩, by simp⟩ ?assign ?body ?hq ?hend
  case assign =>
    intro l x W K hK
    gi_wp2
    exact hK
  case body =>
    rintro l pre x W ⟨⟨⟨b0, b1, b2, b3, hla⟩, hB⟩, hcnt⟩ hlen hx
    simp only [List.setIfInBounds_toArray, List.set_cons_succ, List.set_cons_zero]
    have hwide : ∀ f, (Fence.wide.inRound l).fn f := fun _ => trivial
    have c1 := b1.cell
    have c2 := b2.cell
    have c3 := b3.cell
    have f0 := b0.frozen
    have f2 := b2.frozen
    have f3 := b3.frozen
    have c0 := b0.cell
    have cLess : ∀ k, CallsIn (Fence.wide.inRound l) 6 Tryd.prog 31 #[.int .u64 m, .int .u64 x] (W.drewN k) fun e w'' => e = .returned (.int .u64 (andn m x : Nat)) ∧ ∃ q, w'' = W.drewN q := fun k => CallsIn.quiet_of_same (CallsIn.inRound l (callsIn_wide.2 (less_any m x hm hx _)))
    have cIn2 : ∀ k, CallsIn (Fence.wide.inRound l) 6 Tryd.prog 35 #[.int .u64 (andn m x : Nat), .int .u64 m] (W.drewN k) fun e w'' => e = .returned (.bool true) ∧ ∃ q, w'' = W.drewN q := fun k => CallsIn.quiet_of_same (CallsIn.inRound l (callsIn_wide.2 (by
      have := in_any (andn m x) m (andn_lt _ hm) hm (W.drewN k)
      rw [less_in hm hx] at this
      exact this)))
    have cIn : ∀ k, CallsIn (Fence.wide.inRound l) 6 Tryd.prog 35 #[.int .u64 x, .int .u64 m] (W.drewN k) fun e w'' => e = .returned (.bool (decide (andn x m = 0))) ∧ ∃ q, w'' = W.drewN q := fun k => CallsIn.quiet_of_same (CallsIn.inRound l (callsIn_wide.2 (in_any x m hx hm _)))
    have cC : ∀ W, CallsIn (Fence.wide.inRound l) 6 Tryd.prog 29 #[.int .u64 m] W fun e w'' => e = .returned (.int .i64 (cnt m : Nat)) ∧ w'' = W := fun W => CallsIn.inRound l (callsIn_wide.2 (count_any m hm W))
    have hbad : ∀ h : pre ++ [x] <+: subsTo m (2 ^ cnt m), andn x m = 0 ∧ (pre.length = 0 → x = 0) ∧ (0 < pre.length → lastOf pre < x) := fun h => by
      obtain ⟨e1, e2, e3⟩ := subs_pre h
      refine ⟨by rw [e2]; exact subW_in hm _, fun h0 => by rw [e2, h0]; exact subW_zero m, fun h0 => ?_⟩
      obtain ⟨q, hq⟩ : ∃ q, pre.length = q + 1 := ⟨pre.length - 1, by omega⟩
      have e4 : lastOf pre = subW m q := by rw [e1, hq, lastOf_subs]
      rw [e4, e2, hq]
      exact subW_rise m (by omega) (by omega)
    have hsn : lastOf (pre ++ [x]) = x := lastOf_snoc pre x
    have hln : (pre ++ [x]).length = pre.length + 1 := by simp
    have hle64 : cnt m ≤ 64 := rankTo_le _ _
    have hN0 : W.heap.size ≥ w.heap.size := hB.size
    replace hlen := Lib.hid hlen
    replace hln := Lib.hid hln
    replace hsn := Lib.hid hsn
    replace hbad := Lib.hid hbad
    have hL63 : pre.length ≤ 9223372036854775000 := by
      have := hlen.out
      have : 2 ^ cnt m ≤ 2 ^ 64 := Nat.pow_le_pow_right (by omega) hle64
      rcases hcnt with h | h
      · have : 2 ^ cnt m ≤ 2 ^ 10 := Nat.pow_le_pow_right (by omega) h
        omega
      · omega
    have hret : ¬ pre ++ [x] <+: subsTo m (2 ^ cnt m) → ∀ W', W' = (W.setCell ⟨w.heap.size, 0, none⟩ (.bool false)) → True := fun _ _ _ => trivial
    clear hret
    generalize hL : pre.length = L at *
    generalize hlaa : lastOf pre = la at *
    replace hL := Lib.hid hL
    replace hlaa := Lib.hid hlaa
    have keepR : ∀ n, KeepsFrom W0.heap.size W ((W.drewN n).setCell ⟨w.heap.size, 0, none⟩ (.bool false)) := fun n => from_drewN ((KeepsOthers.setCell (W.drewN n) _ _).from _)
    have next := fun n => allI_next (n := n) b0 b1 b2 b3 hB hs1 hx hL.out
    replace keepR := Lib.hid keepR
    replace next := Lib.hid next
    replace b0 := Lib.hid b0
    replace b1 := Lib.hid b1
    replace b2 := Lib.hid b2
    replace b3 := Lib.hid b3
    replace hB := Lib.hid hB
    replace cLess := Lib.hid cLess
    replace cIn2 := Lib.hid cIn2
    replace cC := Lib.hid cC
    clear hN0
    have hway : ((andn x m ≠ 0 ∨ (L = 0 ∧ x ≠ 0)) ∨ (0 < L ∧ x ≤ la)) ∨ (andn x m = 0 ∧ ((L = 0 ∧ x = 0) ∨ (0 < L ∧ la < x))) := by omega
    rcases hway with ((h1 | ⟨hL0, hx0⟩) | ⟨hL0, hx0⟩) | ⟨h1, hway⟩
    · have hnp : Hid (¬ pre ++ [x] <+: subsTo m (2 ^ cnt m)) := Lib.hid fun h => h1 (hbad.out h).1
      rw [show decide (andn x m = 0) = false from by simp [h1]] at cIn
      replace h1 := Lib.hid h1
      replace cIn := Lib.hid cIn
      gi_wp2_with fail
      refine round_region_quiet (by kernel_rfl) (by kernel_rfl) (by kernel_rfl) ?_
      repeat (gi_big_quiet_step (first | (with_reducible exact cIn.out _) | (with_reducible exact cLess.out _) | (with_reducible exact cIn2.out _)))
      refine wpQuietIn_nil ?_
      intro _ hw'
      obtain ⟨nq, hw''⟩ := hw'
      subst hw''
      gi_wp2
      exact ⟨keepR.out _, .inl ⟨rfl, hnp.out⟩⟩
    · have hnp : Hid (¬ pre ++ [x] <+: subsTo m (2 ^ cnt m)) := Lib.hid fun h => hx0 ((hbad.out h).2.1 hL0)
      have t1 : decide (0 < L) = false := by simp; omega
      have t2 : ((L : Int) == 0) = true := by simp; omega
      have t3 : ((x : Int) != 0) = true := by simp; omega
      replace hL0 := Lib.hid hL0
      replace hx0 := Lib.hid hx0
      by_cases h1 : andn x m = 0
      · rw [show decide (andn x m = 0) = true from by simp [h1]] at cIn
        replace h1 := Lib.hid h1
        replace cIn := Lib.hid cIn
        gi_wp2_with fail
        refine round_region_quiet (by kernel_rfl) (by kernel_rfl) (by kernel_rfl) ?_
        repeat (gi_big_quiet_step (first | (with_reducible exact cIn.out _) | (with_reducible exact cLess.out _) | (with_reducible exact cIn2.out _)))
        refine wpQuietIn_nil ?_
        intro _ hw'
        obtain ⟨nq, hw''⟩ := hw'
        subst hw''
        gi_wp2
        exact ⟨keepR.out _, .inl ⟨rfl, hnp.out⟩⟩
      · rw [show decide (andn x m = 0) = false from by simp [h1]] at cIn
        replace h1 := Lib.hid h1
        replace cIn := Lib.hid cIn
        gi_wp2_with fail
        refine round_region_quiet (by kernel_rfl) (by kernel_rfl) (by kernel_rfl) ?_
        repeat (gi_big_quiet_step (first | (with_reducible exact cIn.out _) | (with_reducible exact cLess.out _) | (with_reducible exact cIn2.out _)))
        refine wpQuietIn_nil ?_
        intro _ hw'
        obtain ⟨nq, hw''⟩ := hw'
        subst hw''
        gi_wp2
        exact ⟨keepR.out _, .inl ⟨rfl, hnp.out⟩⟩
    · have hnp : Hid (¬ pre ++ [x] <+: subsTo m (2 ^ cnt m)) := Lib.hid fun h => by
        have := (hbad.out h).2.2 hL0
        omega
      have t1 : decide (0 < L) = true := by simp; omega
      have t3 : decide (x ≤ la) = true := by simp; omega
      by_cases h1 : andn x m = 0
      · rw [show decide (andn x m = 0) = true from by simp [h1]] at cIn
        replace h1 := Lib.hid h1
        replace cIn := Lib.hid cIn
        gi_wp2_with fail
        refine round_region_quiet (by kernel_rfl) (by kernel_rfl) (by kernel_rfl) ?_
        repeat (gi_big_quiet_step (first | (with_reducible exact cIn.out _) | (with_reducible exact cLess.out _) | (with_reducible exact cIn2.out _)))
        refine wpQuietIn_nil ?_
        intro _ hw'
        obtain ⟨nq, hw''⟩ := hw'
        subst hw''
        gi_wp2
        exact ⟨keepR.out _, .inl ⟨rfl, hnp.out⟩⟩
      · rw [show decide (andn x m = 0) = false from by simp [h1]] at cIn
        replace h1 := Lib.hid h1
        replace cIn := Lib.hid cIn
        gi_wp2_with fail
        refine round_region_quiet (by kernel_rfl) (by kernel_rfl) (by kernel_rfl) ?_
        repeat (gi_big_quiet_step (first | (with_reducible exact cIn.out _) | (with_reducible exact cLess.out _) | (with_reducible exact cIn2.out _)))
        refine wpQuietIn_nil ?_
        intro _ hw'
        obtain ⟨nq, hw''⟩ := hw'
        subst hw''
        gi_wp2
        exact ⟨keepR.out _, .inl ⟨rfl, hnp.out⟩⟩
    · rw [show decide (andn x m = 0) = true from by simp [h1]] at cIn
      replace h1 := Lib.hid h1
      replace cIn := Lib.hid cIn
      have hcnt3 : cnt m ≤ 10 ∨ (10 < cnt m ∧ L + 1 = 100) ∨ (10 < cnt m ∧ L + 1 < 100) := by omega
      have hways : ∃ p1 p2 p3 p4 : Bool, decide (0 < L) = p1 ∧ ((L : Int) == 0) = p2 ∧ ((x : Int) != 0) = p3 ∧ decide (x ≤ la) = p4 ∧ ((p1 = false ∧ p2 = true ∧ p3 = false) ∨ (p1 = true ∧ p4 = false ∧ p2 = false)) := by
        refine ⟨_, _, _, _, rfl, rfl, rfl, rfl, ?_⟩
        rcases hway with ⟨h2, h3⟩ | ⟨h2, h3⟩
        · left; refine ⟨?_, ?_, ?_⟩ <;> simp <;> omega
        · right; refine ⟨?_, ?_, ?_⟩ <;> simp <;> omega
      obtain ⟨p1, p2, p3, p4, t1, t2, t3, t4, hways⟩ := hways
      clear hway
      rcases hways with ⟨rfl, rfl, rfl⟩ | ⟨rfl, rfl, rfl⟩
      all_goals
        rcases hcnt3 with h10 | ⟨h10, h100⟩ | ⟨h10, h100⟩
        · have u1 : decide (10 < cnt m) = false := by simp; omega
          have u2 : decide ((10 : Int) < ((cnt m : Nat) : Int)) = false := by simp; omega
          gi_wp2_with fail
          refine round_region_quiet (by kernel_rfl) (by kernel_rfl) (by kernel_rfl) ?_
          repeat (gi_big_quiet_step (first | (with_reducible exact cIn.out _) | (with_reducible exact cLess.out _) | (with_reducible exact cIn2.out _)))
          refine wpQuietIn_nil ?_
          intro _ hw'
          obtain ⟨nq, hw''⟩ := hw'
          subst hw''
          have nx := next.out nq
          replace nx := Lib.hid nx
          gi_wp2_with fail
          refine (cC.out _).mono ?_
          rintro e w' ⟨rfl, rfl⟩
          gi_wp2
          exact ⟨nx.out.2.2 _, nx.out.2.1, nx.out.1, .inl h10⟩
        · have u1 : decide (10 < cnt m) = true := by simp; omega
          have u2 : decide ((10 : Int) < ((cnt m : Nat) : Int)) = true := by simp; omega
          have u3 : ((L : Int) + 1 == 100) = true := by simp; omega
          replace h100 := Lib.hid h100
          gi_wp2_with fail
          refine round_region_quiet (by kernel_rfl) (by kernel_rfl) (by kernel_rfl) ?_
          repeat (gi_big_quiet_step (first | (with_reducible exact cIn.out _) | (with_reducible exact cLess.out _) | (with_reducible exact cIn2.out _)))
          refine wpQuietIn_nil ?_
          intro _ hw'
          obtain ⟨nq, hw''⟩ := hw'
          subst hw''
          have nx := next.out nq
          replace nx := Lib.hid nx
          gi_wp2_with fail
          refine (cC.out _).mono ?_
          rintro e w' ⟨rfl, rfl⟩
          gi_wp2
          exact ⟨nx.out.2.2 _, .inr ⟨rfl, nx.out.1, h10, by rw [hln.out]; exact h100.out⟩⟩
        · have u1 : decide (10 < cnt m) = true := by simp; omega
          have u2 : decide ((10 : Int) < ((cnt m : Nat) : Int)) = true := by simp; omega
          have u3 : ((L : Int) + 1 == 100) = false := by simp; omega
          replace h100 := Lib.hid h100
          gi_wp2_with fail
          refine round_region_quiet (by kernel_rfl) (by kernel_rfl) (by kernel_rfl) ?_
          repeat (gi_big_quiet_step (first | (with_reducible exact cIn.out _) | (with_reducible exact cLess.out _) | (with_reducible exact cIn2.out _)))
          refine wpQuietIn_nil ?_
          intro _ hw'
          obtain ⟨nq, hw''⟩ := hw'
          subst hw''
          have nx := next.out nq
          replace nx := Lib.hid nx
          gi_wp2_with fail
          refine (cC.out _).mono ?_
          rintro e w' ⟨rfl, rfl⟩
          gi_wp2
          exact ⟨nx.out.2.2 _, nx.out.2.1, nx.out.1, .inr (by rw [hln.out]; exact h100.out)⟩
  case hq => intro a' W h; exact h
  case hend =>
    rintro D W hD hcase hK
    obtain ⟨N, la, ⟨b0, b1, b2, b3, hla⟩, hB, hfine⟩ : ∃ N la : Nat, (Boxed W w.heap.size 4 (.bool false) ∧ Boxed W g 24 (.int .u64 m) ∧ Boxed W (g + 1) 3 (.int .i64 N) ∧ Boxed W (g + 1 + 1) 24 (.int .u64 la) ∧ la < 18446744073709551616) ∧ Below w.heap.size w W ∧ ((cnt m ≤ 10 ∧ N = 2 ^ cnt m ∧ la = m) ∨ (10 < cnt m ∧ N = 100)) := by
      rcases hcase with ⟨⟨h, hB⟩, h2⟩ | ⟨pre, _, ⟨h, hB⟩, h1, h2⟩
      · refine ⟨_, _, h, hB, .inl ?_⟩
        rw [subsTo_length] at h2 ⊢
        have hc : cnt m ≤ 10 := by
          rcases Nat.lt_or_ge 10 (cnt m) with h3 | h3
          · have : 2 ^ 11 ≤ 2 ^ cnt m := Nat.pow_le_pow_right (by omega) h3
            omega
          · exact h3
        refine ⟨hc, rfl, ?_⟩
        obtain ⟨q, hq⟩ : ∃ q, 2 ^ cnt m = q + 1 := ⟨2 ^ cnt m - 1, by have := Nat.two_pow_pos (cnt m); omega⟩
        rw [hq, lastOf_subs, show q = 2 ^ cnt m - 1 by omega, subW_last hm]
      · exact ⟨_, _, h, hB, .inr ⟨h1, h2⟩⟩
    have hT4 : Tab W := hTw.out.below hB hlt0
    replace hT4 := Lib.hid hT4
    clear hcase q0 q1 q2 q3 q4 hB2 hT2
    have c1 := b1.cell
    have c2 := b2.cell
    have c3 := b3.cell
    have hwide : ∀ f, Fence.wide.fn f := fun _ => trivial
    have cC : ∀ k, CallsIn Fence.wide 8 Tryd.prog 29 #[.int .u64 m] (W.drewN k) fun e w'' => e = .returned (.int .i64 (cnt m : Nat)) ∧ ∃ q, w'' = W.drewN q := fun k => CallsIn.quiet_of_same (callsIn_wide.2 (count_any m hm _))
    replace cC := Lib.hid cC
    have hB' := Lib.hid hB
    clear hB
    have keepBox := Lib.hid b0
    have keepM := Lib.hid b1
    have hfin : ∃ p1 p2 p3 p4 : Bool, decide (cnt m ≤ 10) = p1 ∧ ((N : Int) != wrap64 (2 ^ cnt m)) = p2 ∧ ((la : Int) != (m : Int)) = p3 ∧ ((N : Int) != 100) = p4 ∧ ((p1 = true ∧ p2 = false ∧ p3 = false) ∨ (p1 = false ∧ p4 = false)) := by
      refine ⟨_, _, _, _, rfl, rfl, rfl, rfl, ?_⟩
      rcases hfine with ⟨h10, hN, hl⟩ | ⟨h10, hN⟩
      · refine .inl ⟨by simp; omega, ?_, by simp [hl]⟩
        have h1 : (2 : Nat) ^ cnt m ≤ 2 ^ 10 := Nat.pow_le_pow_right (by omega) h10
        have h2 : ((2 ^ cnt m : Nat) : Int) = (2 : Int) ^ cnt m := by simp
        rw [← h2, ← hN]
        rw [← hN] at h1
        have h3 : wrap64 (N : Int) = (N : Int) := by unfold wrap64; omega
        rw [h3]; simp
      · exact .inr ⟨by simp; omega, by simp [hN]⟩
    obtain ⟨p1, p2, p3, p4, t1, t2, t3, t4, hfin⟩ := hfin
    have u1 : decide (((cnt m : Nat) : Int) ≤ 10) = p1 := by rw [← t1]; exact decide_eq_decide.2 (by omega)
    have u2 : decide (10 < cnt m) = !p1 := by rw [← t1]; by_cases h : cnt m ≤ 10 <;> simp [h]; omega
    have u3 : decide ((10 : Int) < ((cnt m : Nat) : Int)) = !p1 := by rw [← u2]; exact decide_eq_decide.2 (by omega)
    have hle64 : cnt m ≤ 64 := rankTo_le _ _
    clear hfine
    gi_wp2_with fail
    gi_cut [87] from 63 (fun v w' => v = .bool false ∧ ∃ n, w' = W.drewN n)
    case first =>
      rcases hfin with ⟨rfl, rfl, rfl⟩ | ⟨rfl, rfl⟩
      all_goals
        refine wpIn_region_quiet_lit rfl (by kernel_rfl) (by kernel_rfl) ?_
        repeat (gi_big_quiet_step (with_reducible exact cC.out _))
        refine wpQuietIn_nil ?_
        intro _ hw'
        obtain ⟨nq, hw''⟩ := hw'
        subst hw''
        gi_wp2
        gi_meet
        case rel => exact ⟨rfl, nq, rfl⟩
    obtain ⟨rfl, nq, rfl⟩ := hcut
    clear hfin t1 t2 t3 t4 u1 u2 u3 cC c2 c3 c1 b0 b1 b2 b3 hla
    have hT5 : Tab (W.drewN nq) := hT4.out
    have hB5 : Below w.heap.size w (W.drewN nq) := below_drawn hB'.out nq
    have keepBox5 : Boxed (W.drewN nq) w.heap.size 4 (.bool false) := keepBox.out
    have c5 : (W.drewN nq).cell? ⟨g, 0, none⟩ = some (.int .u64 m) := keepM.out.cell
    have hgl : g < (W.drewN nq).heap.size := (Array.getElem?_eq_some_iff.1 (show (W.drewN nq).heap[g]? = _ from keepM.out)).1
    have hK5 : (W.drewN nq).heap[D]? = some (Obj.deferred (some [])) := hK
    clear hT4 hB' keepBox keepM hK
    generalize W.drewN nq = W5 at *
    have hT6 : Hid (Tab W5.drew) := Lib.hid hT5
    have c6 : Hid (W5.drew.cell? ⟨g, 0, none⟩ = some (.int .u64 m)) := Lib.hid c5
    replace hT5 := Lib.hid hT5
    replace hB5 := Lib.hid hB5
    replace keepBox5 := Lib.hid keepBox5
    replace hK5 := Lib.hid hK5
    gi_wp2_with fail
    gi_cut [9] from 88 (fun v w' => ∃ (vs : Nat → Value) (X : Nat → List Int) (G : Nat), v = .slice (some ⟨G, 0, none⟩) 3 3 ∧ Three W5.heap.size W5 G vs X w' ∧ ∀ i, i < 3 → (X i).length ≤ 64)
    case first =>
      refine wpIn_wide.2 ?_
      go_region_held3 (fun w' => w'.cell? ⟨g, 0, none⟩ = some (.int .u64 m)) (first | exact c5 | exact d1.out | exact d2.out | exact d3.out | exact far_alloc d3.out _) (first | (go_at_call 15; have x2 := e2.out; refine (callsIn_wide.1 (mnums_in 8 (by omega) m hm _ x2)).mono ?_; clear x2; rintro e W3 ⟨v2, rfl, ho2, hB3⟩; (obtain ⟨a2, k2, rfl⟩ := (Ints.of_own ho2).len); (have d3 := Lib.hid (cell_u64 hB3 hg2.out d2.out))) | (go_at_call 15; have x1 := e1.out; refine (callsIn_wide.1 (mnums_in 8 (by omega) b hb _ x1)).mono ?_; clear x1; rintro e W2 ⟨v1, rfl, ho1, hB2⟩; (obtain ⟨a1, k1, rfl⟩ := (Ints.of_own ho1).len); have d2 := Lib.hid (cell_u64 hB2 hg1.out d1.out); have hg2 : Hid (g < W2.heap.size) := Lib.hid (by have := hB2.size; have := hg1.out; omega); have e2 := Lib.hid (e1.out.belowAll hB2)) | (go_at_call 15; refine (callsIn_wide.1 (mnums_in 8 (by omega) m hm _ hT6.out)).mono ?_; rintro e W1 ⟨v0, rfl, ho0, hB1⟩; (obtain ⟨a0, k0, rfl⟩ := (Ints.of_own ho0).len); have d1 := Lib.hid (cell_u64 hB1 hgl c6.out); have hg1 : Hid (g < W1.heap.size) := Lib.hid (Nat.lt_of_lt_of_le hgl hB1.size); have e1 := Lib.hid (Tab.belowAll hT6.out hB1)))
      gi_wp2
      gi_meet
      case rel =>
        refine ⟨_, _, _, rfl, (three_made W5.drew W1 W2 W3 _ _ _ _ _ _ (own_ints ho0) hB1 (own_ints ho1) hB2 (own_ints ho2) hB3).undrew, ?_⟩
        intro i hi
        match i, hi with
        | 0, _ => exact nums_le64 m
        | 1, _ => exact nums_le64 b
        | 2, _ => exact nums_le64 m
    obtain ⟨vs, X, G, rfl, hTh, hX⟩ := hcut
    clear c5 hgl hT5 hT6 c6
    gi_wp2_with fail
    gi_loopw [10] (fun i wr => ∃ (k : Nat) (X' : Nat → List Int), k ≤ 3 ∧ i = .int .i64 k ∧ Three W5.heap.size W5 G vs X' wr ∧ (∀ j, (X' j).length = (X j).length) ∧ ∀ j, j < k → ∀ t, t < (X j).length → (X' j).getD t 0 = -(j : Int) - 1) (fun i _ => 3 - (intOf i).toNat)
    case atStart => exact ⟨0, X, by omega, rfl, hTh, fun _ => rfl, fun j hj => by omega⟩
    case round =>
      clear hTh
      obtain ⟨i, X', hi, rfl, hTh, hl, hdone⟩ := hrel
      by_cases hlt : i < 3
      · obtain ⟨va, vc, hvi⟩ := (hTh.ints i hlt).len
        rw [hl i] at hvi
        have hn := hX i hlt
        have hdone0 := Lib.hid hdone
        have hl0 := Lib.hid hl
        have hX0 := Lib.hid hX
        have hvi0 := Lib.hid hvi
        have hTh0 := Lib.hid hTh
        obtain ⟨n, hnX⟩ : ∃ n, (X i).length = n := ⟨_, rfl⟩
        have hnX0 := Lib.hid hnX
        rw [hnX] at hn
        clear hdone hl hX hTh hvi
        gi_wp2_with fail
        gi_loopw [11] (fun k wr => ∃ (q : Nat) (X2 : Nat → List Int), q ≤ n ∧ k = .int .i64 q ∧ Three W5.heap.size W5 G vs X2 wr ∧ (∀ j, (X2 j).length = (X j).length) ∧ (∀ j, j < i → ∀ t, t < (X j).length → (X2 j).getD t 0 = -(j : Int) - 1) ∧ ∀ t, t < q → (X2 i).getD t 0 = -(i : Int) - 1) (fun k _ => n - (intOf k).toNat)
        case atStart => exact ⟨0, X', by omega, rfl, hTh0.out, hl0.out, hdone0.out, fun t ht => by omega⟩
        case round =>
          clear hTh0 hl0 hdone0
          obtain ⟨q, X2, hq, rfl, hTh, hl, hdone, hpart⟩ := hrel
          have hcell := hTh.at i hlt
          rw [hvi0.out, hnX] at hcell
          have hi0 : (0 : Int) ≤ (i : Int) := by omega
          have hi3 : (i : Int) < 3 := by omega
          by_cases hq2 : q < n
          · obtain ⟨g1, c1, hv1, hc1⟩ : ∃ g1 c1, vs i = .slice (some ⟨g1, 0, none⟩) n c1 ∧ n ≤ c1 := by
              have ho := hTh.own i hlt
              rw [hl i, hnX] at ho
              obtain ⟨r, rfl⟩ : ∃ r, n = r + 1 := ⟨n - 1, by omega⟩
              exact own_form ho
            rw [← hnX, ← hvi0.out, hv1] at hcell
            have hset := hTh.set (k := q) hlt hv1 (-(i : Int) - 1) (X' := fun j => if j = i then (X2 i).set q (-(i : Int) - 1) else X2 j) (by simp) (fun j hj => by simp [hj])
            have hcx : wr.cell? ⟨g1, q, none⟩ = some (.int .i64 ((X2 i).getD q 0)) := by
              have ho := hTh.own i hlt
              rw [hv1, hl i, hnX] at ho
              rw [ho.cellAt q (by omega)]
              have : q < (X2 i).length := by rw [hl i, hnX]; exact hq2
              simp [intsI, List.getD, this]
            have hfx : wr.frozen? ⟨g1, q, none⟩ = false := by
              have ho := hTh.own i hlt
              rw [hv1, hl i, hnX] at ho
              exact ho.frozenAt q
            have hl2 := Lib.hid hl
            have hdone2 := Lib.hid hdone
            have hpart2 := Lib.hid hpart
            have hset2 := Lib.hid hset
            clear hTh hl hdone hpart hset
            have hq0 : (0 : Int) ≤ (q : Int) := by omega
            have hqn : (q : Int) < (n : Int) := by omega
            generalize (X2 i).getD q 0 = x0 at hcx
            gi_wp2_with fail
            go_roundw
            case rel =>
              refine ⟨q + 1, _, by omega, by go_num, hset2.out, ?_, ?_, ?_⟩
              · intro j
                by_cases e : j = i
                · subst e; simpa using hl2.out j
                · simpa [e] using hl2.out j
              · intro j hj t ht
                have e : j ≠ i := by omega
                simpa [e] using hdone2.out j hj t ht
              · intro t ht
                simp only [if_pos]
                by_cases e : t = q
                · subst e
                  have : t < (X2 i).length := by rw [hl2.out i, hnX]; exact hq2
                  simp [List.getD, this]
                · have h1 := hpart2.out t (by omega)
                  simpa [List.getD, List.getElem?_set, Ne.symm e] using h1
            case measure => simp [intOf]; omega
          · obtain rfl : q = n := by omega
            have hl2 := Lib.hid hl
            have hdone2 := Lib.hid hdone
            have hpart2 := Lib.hid hpart
            have hTh2 := Lib.hid hTh
            clear hTh hl hdone hpart
            gi_wp2_with fail
            go_roundw
            case rel =>
              refine ⟨i + 1, X2, by omega, by go_num, hTh2.out, hl2.out, ?_⟩
              intro j hj t ht
              by_cases e : j = i
              · subst e; exact hpart2.out t (by rw [← hnX]; exact ht)
              · exact hdone2.out j (by omega) t ht
            case measure => simp [intOf]; omega
      · obtain rfl : i = 3 := by omega
        have hdone0 := Lib.hid hdone
        have hl0 := Lib.hid hl
        have hX0 := Lib.hid hX
        have hTh0 := Lib.hid hTh
        clear hdone hl hX hTh
        have h3 : ∀ j, j < 3 → ∀ t, t < (X j).length → (X' j).getD t 0 = -(j : Int) - 1 := fun j hj => hdone0.out j (by omega)
        replace h3 := Lib.hid h3
        clear hdone0
        gi_wp2_with fail
        gi_loopw [12, 13] (fun gr i wr => ∃ (k : Nat) (ls : Nat → Value), k ≤ 3 ∧ i = .int .i64 k ∧ Grows W5.heap.size W5 G vs X' k gr ls wr) (fun _ i _ => 3 - (intOf i).toNat)
        case atStart => exact ⟨0, fun _ => .bool true, by omega, rfl, Grows.start _ hTh0.out⟩
        case round =>
          clear hTh0
          obtain ⟨i, ls, hi, rfl, hGr⟩ := hrel
          by_cases hlt : i < 3
          · have hi0 : (0 : Int) ≤ (i : Int) := by omega
            have hi3 : (i : Int) < 3 := by omega
            have hcell := hGr.three.at i hlt
            have hGo := Lib.hid (hGr.goes hlt)
            have hXi : (X' i).length ≤ 64 := by rw [hl0.out i]; exact hX0.out i hlt
            replace hXi := Lib.hid hXi
            clear hGr
            gi_wp2_with fail
            gi_loopw [14, 15] (fun l k wr => ∃ (q : Nat), q ≤ 40 ∧ k = .int .i64 q ∧ Goes W5.heap.size W5 G vs X' i q u12 ls l wr) (fun _ k _ => 40 - (intOf k).toNat)
            case atStart => exact ⟨0, by omega, rfl, hGo.out⟩
            case round =>
              clear hGo
              obtain ⟨q, hq, rfl, hGo⟩ := hrel
              have hB0 : W5.heap.size ≤ wr.heap.size := hGo.g.three.below.size
              replace hB0 := Lib.hid hB0
              by_cases hq2 : q < 40
              · have hap := goes_append hGo hlt hq2 hXi.out hB0.out
                replace hap := Lib.hid hap
                clear hGo
                gi_wp2_with (gi_at_builtin; refine wpListIn_append_run _ rfl (.tmp 129) (.tmp 132) 22 rfl _ _ rfl rfl _ hap.out ?_; intro v' w' hG)
                refine ⟨⟨_, _, _, _, _, _, _, _, _, _, _, ⟨q + 1, by omega, ?_, hG⟩, rfl⟩, ?_⟩
                · go_num
                · simp [intOf]; omega
              · obtain rfl : q = 40 := by omega
                obtain ⟨la, lc, hll⟩ := (Ints.of_ownI hGo.row).len
                obtain ⟨nl, hnl⟩ : ∃ nl, (X' i ++ List.replicate 40 (100 + (i : Int))).length = nl := ⟨_, rfl⟩
                rw [hnl] at hll
                subst hll
                replace hnl := Lib.hid hnl
                have hap := goes_push hGo hlt hB0.out rfl
                replace hap := Lib.hid hap
                clear hGo
                gi_wp2_with (gi_at_builtin; refine wpListIn_append_run _ rfl (.tmp 134) (.tmp 136) 57 rfl _ _ rfl rfl _ hap.out ?_; intro v' w' hG)
                refine ⟨⟨_, _, _, _, _, _, _, _, _, _, _, _, _, _, _, _, _, _, _, _, _, _, _, _, _, ⟨i + 1, _, by omega, ?_, hG⟩, rfl⟩, ?_⟩
                · go_num
                · simp [intOf]; omega
          · obtain rfl : i = 3 := by omega
            replace hGr := Lib.hid hGr
            obtain ⟨gg, cg, rfl, hgc⟩ := hGr.out.lists
            have hres : Boxed wr w.heap.size 4 (.bool false) := by
              have h1 := hGr.out.three.below
              exact (h1.block w.heap.size (Array.getElem?_eq_some_iff.1 (show W5.heap[w.heap.size]? = _ from keepBox5.out)).1).trans keepBox5.out
            have hK6 : wr.heap[D]? = some (.deferred (some [])) := (hGr.out.three.below.block D (Array.getElem?_eq_some_iff.1 hK5.out).1).trans hK5.out
            have hB6 : Below w.heap.size w wr := hB5.out.trans (hGr.out.three.below.mono hB5.out.size)
            have hres0 := Lib.hid hres
            have hc4 := hres.cell
            have hf4 := hres.frozen
            replace hK6 := Lib.hid hK6
            replace hB6 := Lib.hid hB6
            replace hgc := Lib.hid hgc
            clear hres keepBox5 hK5 hB5
            gi_wp2_with fail
            gi_loopw [16] (fun i w9 => ∃ k : Nat, k ≤ 3 ∧ i = .int .i64 k ∧ w9 = wr) (fun i _ => 3 - (intOf i).toNat)
            case atStart => exact ⟨0, by omega, rfl, rfl⟩
            case round =>
              obtain ⟨i, hi, rfl, rfl⟩ := hrel
              by_cases hlt : i < 3
              · have hi0 : (0 : Int) ≤ (i : Int) := by omega
                have hi3 : (i : Int) < 3 := by omega
                obtain ⟨gl, cl, hls, hlc⟩ := hGr.out.list i hlt
                have cg1 := hgc.out i hlt
                rw [hls] at cg1
                obtain ⟨va, vc, hvi⟩ := (hGr.out.three.ints i hlt).len
                have cv1 := hGr.out.three.at i hlt
                rw [hvi] at cv1
                have hn64 : (X' i).length ≤ 64 := by rw [hl0.out i]; exact hX0.out i hlt
                have hval : ∀ q, q < (X' i).length → (X' i).getD q 0 = -(i : Int) - 1 := fun q hq => h3.out i hlt q (by rw [← hl0.out i]; exact hq)
                have hcv : ∀ q, q < (X' i).length → ∃ gv, va = some ⟨gv, 0, none⟩ ∧ wr.cell? ⟨gv, q, none⟩ = some (.int .i64 (-(i : Int) - 1)) := fun q hq => by
                  have ho := hGr.out.three.own i hlt
                  rw [hvi] at ho
                  obtain ⟨r, hr⟩ : ∃ r, (X' i).length = r + 1 := ⟨(X' i).length - 1, by omega⟩
                  rw [hr] at ho
                  obtain ⟨gv, cv, e1, _⟩ := own_form ho
                  cases e1
                  refine ⟨gv, rfl, ?_⟩
                  rw [own_cell ho q (by omega), hval q hq]
                have hl1 : ∀ q, q < (X' i).length → wr.cell? ⟨gl, q, none⟩ = some (.int .i64 (-(i : Int) - 1)) := fun q hq => by
                  rw [hlc q (by omega), getD_in hq, hval q hq]
                have hl2 : ∀ q, (X' i).length ≤ q → q < (X' i).length + 40 → wr.cell? ⟨gl, q, none⟩ = some (.int .i64 (100 + (i : Int))) := fun q hq h => by
                  rw [hlc q h, getD_out hq h]
                clear hlc hval
                generalize (X' i).length = n at *
                replace hcv := Lib.hid hcv
                replace hl1 := Lib.hid hl1
                replace hl2 := Lib.hid hl2
                replace hls := Lib.hid hls
                replace hvi := Lib.hid hvi
                gi_wp2_with fail
                gi_loopw [17] (fun k w9 => ∃ q : Nat, q ≤ n + 40 ∧ k = .int .i64 q ∧ w9 = wr) (fun k _ => n + 40 - (intOf k).toNat)
                case atStart => exact ⟨0, by omega, rfl, rfl⟩
                case round =>
                  obtain ⟨q, hq, rfl, rfl⟩ := hrel
                  have hq0 : (0 : Int) ≤ (q : Int) := by omega
                  rcases (show q = n + 40 ∨ q < n ∨ (n ≤ q ∧ q < n + 40) by omega) with rfl | hqn | ⟨hqn, hq40⟩
                  · gi_wp2_with fail
                    go_roundw
                    case rel => exact ⟨i + 1, by omega, by go_num, (by first | rfl | trivial)⟩
                    case measure => simp [intOf]; omega
                  · obtain ⟨gv, rfl, cv2⟩ := hcv.out q hqn
                    have cl2 := hl1.out q hqn
                    have t1 : (-(i : Int) - 1 != -(i : Int) - 1) = false := by simp
                    have hqn1 : (q : Int) < (n : Int) := by omega
                    have hqn2 : (q : Int) < ((n + 40 : Nat) : Int) := by omega
                    have hqn3 : (q : Int) < (n : Int) + 40 := by omega
                    have hqn4 : q < n + 40 := by omega
                    gi_wp2_with fail
                    refine ⟨⟨_, _, _, _, _, _, _, _, _, _, _, _, _, _, _, _, _, _, _, _, _, _, _, _, _, _, _, _, _, _, _, _, _, _, _, _, _, _, _, _, _, _, _, _, _, _, _, _, _, _, _, _, _, _, _, _, _, _, _, _, _, _, _, _, ⟨q + 1, by omega, ?_, (by first | rfl | trivial)⟩, rfl⟩, ?_⟩
                    · go_num
                    · simp [intOf]; omega
                  · have cl2 := hl2.out q hqn hq40
                    have t1 : (100 + (i : Int) != 100 + (i : Int)) = false := by simp
                    have hqn1 : (n : Int) ≤ (q : Int) := by omega
                    have hqn2 : (q : Int) < ((n + 40 : Nat) : Int) := by omega
                    have hqn3 : (q : Int) < (n : Int) + 40 := by omega
                    gi_wp2_with fail
                    refine ⟨⟨_, _, _, _, _, _, _, _, _, _, _, _, _, _, _, _, _, _, _, _, _, _, _, _, _, _, _, _, _, _, _, _, _, _, _, _, _, _, _, _, _, _, _, _, _, _, _, _, _, _, _, _, _, _, _, _, _, _, _, _, _, _, _, _, ⟨q + 1, by omega, ?_, (by first | rfl | trivial)⟩, rfl⟩, ?_⟩
                    · go_num
                    · simp [intOf]; omega
              · obtain rfl : i = 3 := by omega
                gi_wp2_with fail
                refine ⟨by simp, .inl ⟨_, _, rfl, run_takeDeferred ((heap_setCell_other _ _ _ _ (by simp; omega)).trans hK6.out), ?_⟩⟩
                exact all_end rfl rfl ((heap_setCell_other _ _ _ _ (by simp; omega)).trans hK6.out) (hres0.out.set _) (hB6.out.setCell (by simp) _) (by omega)
end Go.Proofs.YtmmhcfbnelggfaaDoor
