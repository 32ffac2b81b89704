/- The walk of MaskOne: a mask says of every number just what a set says. -/
import Derived.Test.YtmmhcfbnelggfaaDoorRefb
import Derived.Test.YtmmhcfbnelggfaaDoorDo
import Derived.Lib.QuietBelow
namespace Go.Proofs.YtmmhcfbnelggfaaDoor
open Go.RowKit Go.Sort

theorem has_ref (a : Nat) (i : Int) : decide (a &&& bitN i ≠ 0) = hasF a.testBit i := by
  by_cases h0 : 0 ≤ i
  · by_cases h1 : i ≤ 63
    · obtain ⟨k, rfl⟩ : ∃ k : Nat, i = k := ⟨i.toNat, by omega⟩
      rw [has_bit k (by omega)]
      simp [hasF, show (k : Int) ≤ 63 by omega]
    · simp [hasF, h1, bitN, show ¬ i < 64 by omega]
  · simp [hasF, h0, bitN]
theorem with_ref {a : Nat} (i : Int) (ha : a < 18446744073709551616) : a ||| bitN i = word (putF a.testBit i true) :=
  eq_word (or_lt ha (bitN_lt i)) fun j hj => by
    rw [Nat.testBit_or, bitN_bit, putF]
    by_cases h : (j : Int) = i
    · subst h; simp; omega
    · rw [if_neg h]; simp; intro _ _ h2; omega
theorem without_ref {a : Nat} (i : Int) (ha : a < 18446744073709551616) : andn a (bitN i) = word (putF a.testBit i false) :=
  eq_word (andn_lt _ ha) fun j hj => by
    rw [andn_bit ha (bitN_lt i), bitN_bit, putF]
    by_cases h : (j : Int) = i
    · subst h; simp; omega
    · rw [if_neg h]; simp; intro _; omega
theorem not_ref {a : Nat} (i : Int) (ha : a < 18446744073709551616) : andn (aheadN i) a = word (notF a.testBit i) :=
  eq_word (andn_lt _ (aheadN_lt i)) fun j hj => by
    rw [andn_bit (aheadN_lt i) ha, aheadN_bit, notF]
    congr 1
    apply decide_eq_decide.2
    omega

/-- A callee's contract that leaves the world alone, in a world of the class. -/
theorem Calls.regrown_same {P : Program} {f : FuncId} {args : Array Value} {w : World} {d : Nat} {os : Array Obj} {v : Value}
    (h : Calls P f args (grow (redrawn w d) os) fun e w' => e = .returned v ∧ w' = grow (redrawn w d) os) : Calls P f args (grow (redrawn w d) os) fun e w'' => e = .returned v ∧ ∃ p : Regrown, w'' = grow (redrawn w p.d) p.os :=
  h.mono fun _ _ ⟨he, hb⟩ => ⟨he, ⟨d, os⟩, hb⟩
/-- A whole row is loaded in a quiet walk. -/
theorem quiet_load_row {P : Program} {ops : Array Oper} {C : World → Prop} {Q : Act → Prop} {a : Act} {o : Oper} {rest : List Oper} (hw : Region.wanted o (yielded ops a.tmps) = true) (ty : TypeId) (x : Operand) (ho : o.op = .load ty x)
    (g : Nat) (hx : a.eval x = .pointer (some ⟨g, 0, none⟩)) (t : TypeId) (cs : Array Value) (fr : Nat × Nat) (d : TypeDesc) (hg : ∀ w, C w → w.heap[g]? = some (.cells cs t fr))
    (hu : P.underlying ty = some d) (hd : (match d with | .struct _ | .array _ _ => true | _ => false) = true) (hi : (P.info? ty).map (·.size) = some cs.size)
    (h : wpQuiet P ops C Q rest (a.put o.dst (.agg cs))) : wpQuiet P ops C Q (o :: rest) a :=
  wpQuiet_step fun K hK => by
    rw [if_pos hw]
    refine ⟨_, fun w hC => ?_, hK _ h⟩
    unfold Oper.quietAt execOp
    simp only [ho, hx, Instr.loadAt, Instr.sureAddr, Sem.run_bind, Sem.run_pure, Result.andThen_ok, run_loadVar_row w g t ty cs fr d (hg w hC) hu hd hi]
    exact ⟨rfl, rfl⟩
theorem row_regrown {w : World} {g : Nat} {f : Nat → Bool} (h : Blk w g (setC f) 29) (w' : World) (hw : ∃ p : Regrown, w' = grow (redrawn w p.d) p.os) : w'.heap[g]? = some (.cells (setC f) 29 (0, 0)) := by
  obtain ⟨p, rfl⟩ := hw
  exact (Blk.below h (below_regrown w p.d p.os) h.lt).eq

set_option maxRecDepth 100000 in
set_option maxHeartbeats 2000000 in
theorem maskOne_any (a : Nat) (i : Int) (ha : a < 18446744073709551616) (hi : -9223372036854775808 ≤ i) (w : World) (hT : Tab w) :
    Calls Tryd.prog 4 #[.int .u64 a, .int .i64 i] w fun e w' => e = .returned (.bool true) ∧ Below w.heap.size w w' := by
  have hlt0 := hT.lt
  replace hT := Lib.hid hT
  go_enter Tryd.func4, Tryd.ntmps4
  go_wp2_with fail
  refine (of_any a w ha).mono ?_
  rintro e w1 ⟨rfl, hB1⟩
  have hst := run_cells_fresh w1 a.testBit
  go_wp2_with fail
  clear hst
  have bS := Blk.new w1 (setC a.testBit) 29
  have hB : Below w.heap.size w (w1.alloc (.cells (setC a.testBit) 29)) := hB1.alloc hB1.size _
  have hs1 := hB1.size
  obtain ⟨g, hg⟩ : ∃ g, w1.heap.size = g := ⟨_, rfl⟩
  rw [hg] at bS hs1
  rw [hg]
  generalize w1.alloc (.cells (setC a.testBit) 29) = W0 at *
  clear hg hB1
  have hT0 := hT.out.below hB hlt0
  refine (select_any a i ha W0 hT0).mono ?_
  rintro e W0 ⟨rfl, rfl⟩
  unfold told
  have l0 := fun (d : Nat) => bS.eq
  generalize hx : ((selN a.testBit i).getD 0 : Nat) = x
  generalize hxo : (selN a.testBit i).isSome = xo
  have hS1 : ∀ W, Calls Tryd.prog 17 #[.agg (setC a.testBit), .int .i64 i] W fun e w' => e = .returned (.tuple #[.int .i64 x, .bool xo]) ∧ Below W.heap.size W w' := fun W => by
    have := refSelect_any a.testBit i W; unfold told at this; rw [hx, hxo] at this; exact this
  generalize hy : ((nextN a.testBit i).getD 0 : Nat) = y
  generalize hyo : (nextN a.testBit i).isSome = yo
  have hN1 : ∀ W, Calls Tryd.prog 19 #[.agg (setC a.testBit), .int .i64 i] W fun e w' => e = .returned (.tuple #[.int .i64 y, .bool yo]) ∧ Below W.heap.size W w' := fun W => by
    have := refNext_any a.testBit i W; unfold told at this; rw [hy, hyo] at this; exact this
  have hN0 : ∀ W, Tab W → Calls Tryd.prog 18 #[.int .u64 a, .int .i64 i] W fun e w' => e = .returned (.tuple #[.int .i64 y, .bool yo]) ∧ w' = W := fun W hW => by
    have := next_any a i ha hi W hW; unfold told at this; rw [hy, hyo] at this; exact this
  replace hS1 := Lib.hid hS1
  replace hN1 := Lib.hid hN1
  replace hN0 := Lib.hid hN0
  clear l0 hx hxo hy hyo
  go_wp2_with (refine wpList_load_row rfl 29 (.tmp 6) rfl g rfl 29 _ (0, 0) _ bS.eq Tryd.underlying29 rfl (size_set _) ?_)
  refine (hS1.out W0).mono ?_
  rintro e W1 ⟨rfl, hB1⟩
  have bS1 := bS.below hB1 bS.lt
  have hT1 := hT0.belowAll hB1
  have hB' := hB.trans (hB1.mono hB.size)
  clear bS hT0 hB hB1
  go_wp2_with fail
  refine (hN0.out W1 hT1).mono ?_
  rintro e W1 ⟨rfl, rfl⟩
  go_wp2_with (refine wpList_load_row rfl 29 (.tmp 6) rfl g rfl 29 _ (0, 0) _ bS1.eq Tryd.underlying29 rfl (size_set _) ?_)
  refine (hN1.out W1).mono ?_
  rintro e W2 ⟨rfl, hB1⟩
  have bS := bS1.below hB1 bS1.lt
  have hT0 := hT1.belowAll hB1
  have hB := hB'.trans (hB1.mono hB'.size)
  clear bS1 hT1 hB' hB1 hN0 hN1 hS1 W0 W1
  go_wp2_with fail
  have k0 := row_regrown bS
  replace k0 := Lib.hid k0
  have c20 : ∀ d os, Calls Tryd.prog 20 #[.int .u64 a, .int .i64 i] (grow (redrawn W2 d) os) fun e w'' => e = .returned (.bool (hasF a.testBit i)) ∧ ∃ p : Regrown, w'' = grow (redrawn W2 p.d) p.os := fun d os => Calls.regrown_same (by rw [← has_ref]; exact has_any a i ha _)
  have c21 : ∀ d os, Calls Tryd.prog 21 #[.agg (setC a.testBit), .int .i64 i] (grow (redrawn W2 d) os) fun e w'' => e = .returned (.bool (hasF a.testBit i)) ∧ ∃ p : Regrown, w'' = grow (redrawn W2 p.d) p.os := fun d os => Calls.regrown_of (refHas_any _ i _)
  have c22 : ∀ d os, Calls Tryd.prog 22 #[.int .u64 a, .int .i64 i] (grow (redrawn W2 d) os) fun e w'' => e = .returned (.int .u64 (word (putF a.testBit i true) : Nat)) ∧ ∃ p : Regrown, w'' = grow (redrawn W2 p.d) p.os := fun d os => Calls.regrown_same (by rw [← with_ref i ha]; exact with_any a i ha _)
  have c24 : ∀ d os, Calls Tryd.prog 24 #[.int .u64 a, .int .i64 i] (grow (redrawn W2 d) os) fun e w'' => e = .returned (.int .u64 (word (putF a.testBit i false) : Nat)) ∧ ∃ p : Regrown, w'' = grow (redrawn W2 p.d) p.os := fun d os => Calls.regrown_same (by rw [← without_ref i ha]; exact without_any a i ha _)
  have c25 : ∀ d os, Calls Tryd.prog 25 #[.int .u64 a, .int .i64 i] (grow (redrawn W2 d) os) fun e w'' => e = .returned (.int .u64 (word (notF a.testBit i) : Nat)) ∧ ∃ p : Regrown, w'' = grow (redrawn W2 p.d) p.os := fun d os => Calls.regrown_same (by rw [← not_ref i ha]; exact not_any a i ha _)
  have c23 : ∀ b d os, Calls Tryd.prog 23 #[.agg (setC a.testBit), .int .i64 i, .bool b] (grow (redrawn W2 d) os) fun e w'' => e = .returned (.agg (setC (putF a.testBit i b))) ∧ ∃ p : Regrown, w'' = grow (redrawn W2 p.d) p.os := fun b d os => Calls.regrown_of (refPut_any _ i b _)
  have c26 : ∀ d os, Calls Tryd.prog 26 #[.agg (setC a.testBit), .int .i64 i] (grow (redrawn W2 d) os) fun e w'' => e = .returned (.agg (setC (notF a.testBit i))) ∧ ∃ p : Regrown, w'' = grow (redrawn W2 p.d) p.os := fun d os => Calls.regrown_of (refNot_any _ i _)
  have c10 : ∀ f d os, Calls Tryd.prog 10 #[.agg (setC f)] (grow (redrawn W2 d) os) fun e w'' => e = .returned (.int .u64 (word f : Nat)) ∧ ∃ p : Regrown, w'' = grow (redrawn W2 p.d) p.os := fun f d os => Calls.regrown_of (word_any f _)
  refine wp_region_quiet_below (by kernel_rfl) (by kernel_rfl) ?_
  repeat (first | (refine quiet_load_row (by rfl) 29 (.tmp 6) (by rfl) g (by rfl) 29 _ (0, 0) _ k0.out Tryd.underlying29 rfl (size_set _) ?_; simp only [Act.put, List.setIfInBounds_toArray, List.set_cons_succ, List.set_cons_zero]) | go_big_quiet_step (first | (with_reducible exact c20 _ _) | (with_reducible exact c21 _ _) | (with_reducible exact c22 _ _) | (with_reducible exact c23 _ _ _) | (with_reducible exact c10 _ _ _) | (with_reducible exact c24 _ _) | (with_reducible exact c25 _ _) | (with_reducible exact c26 _ _)))
  refine wpQuiet_nil ?_
  intro _ hw'
  obtain ⟨⟨dq, osq⟩, hw''⟩ := hw'
  subst hw''
  clear c20 c21 c22 c23 c24 c25 c26 c10 k0
  have hB1 := below_regrown W2 dq osq
  have bS1 := bS.below hB1 bS.lt
  have hB' := hB.trans (hB1.mono hB.size)
  generalize grow (redrawn W2 dq) osq = W3 at *
  clear hB1 hB bS
  go_wp2_with fail
  have k0 := row_regrown bS1
  replace k0 := Lib.hid k0
  have c27 : ∀ d os, Calls Tryd.prog 27 #[.int .u64 a, .int .i64 i] (grow (redrawn W3 d) os) fun e w'' => e = .returned (.int .i64 (rankTo a.testBit (min i.toNat 64) : Nat)) ∧ ∃ p : Regrown, w'' = grow (redrawn W3 p.d) p.os := fun d os => Calls.regrown_same (rank_any a i ha _)
  have c28 : ∀ d os, Calls Tryd.prog 28 #[.agg (setC a.testBit), .int .i64 i] (grow (redrawn W3 d) os) fun e w'' => e = .returned (.int .i64 (rankTo a.testBit (min i.toNat 64) : Nat)) ∧ ∃ p : Regrown, w'' = grow (redrawn W3 p.d) p.os := fun d os => Calls.regrown_of (refRank_any _ i _)
  have c29 : ∀ d os, Calls Tryd.prog 29 #[.int .u64 a] (grow (redrawn W3 d) os) fun e w'' => e = .returned (.int .i64 (rankTo a.testBit 64 : Nat)) ∧ ∃ p : Regrown, w'' = grow (redrawn W3 p.d) p.os := fun d os => Calls.regrown_same (count_any a ha _)
  have c30 : ∀ d os, Calls Tryd.prog 28 #[.agg (setC a.testBit), .int .i64 64] (grow (redrawn W3 d) os) fun e w'' => e = .returned (.int .i64 (rankTo a.testBit 64 : Nat)) ∧ ∃ p : Regrown, w'' = grow (redrawn W3 p.d) p.os := fun d os => Calls.regrown_of (refRank_any _ 64 _)
  refine wp_region_quiet_below (by kernel_rfl) (by kernel_rfl) ?_
  repeat (first | (refine quiet_load_row (by rfl) 29 (.tmp 6) (by rfl) g (by rfl) 29 _ (0, 0) _ k0.out Tryd.underlying29 rfl (size_set _) ?_; simp only [Act.put, List.setIfInBounds_toArray, List.set_cons_succ, List.set_cons_zero]) | go_big_quiet_step (first | (with_reducible exact c27 _ _) | (with_reducible exact c28 _ _) | (with_reducible exact c29 _ _) | (with_reducible exact c30 _ _)))
  refine wpQuiet_nil ?_
  intro _ hw'
  obtain ⟨⟨dq, osq⟩, hw''⟩ := hw'
  subst hw''
  clear c27 c28 c29 c30 k0
  go_wp2
  go_ret
  exact ⟨rfl, hB'.trans ((below_regrown W3 dq osq).mono hB'.size)⟩
end Go.Proofs.YtmmhcfbnelggfaaDoor
