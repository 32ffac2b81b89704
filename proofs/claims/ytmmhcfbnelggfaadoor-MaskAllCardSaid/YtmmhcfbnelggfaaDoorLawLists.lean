/- The walk of MaskLists: masks are made of lists of numbers, and told as such. -/
import Derived.Test.YtmmhcfbnelggfaaDoorRange
import Derived.Lib.QuietBelowIn
import Derived.Sort.BigQuietIn
import Derived.SizedLaws
import Derived.ChangeSlices
import Derived.OpenShut
namespace Go.Proofs.YtmmhcfbnelggfaaDoor
open Go.RowKit Go.Shelf Go.Sort
attribute [local go_sem] Oper.semAt_some

def intsI (l : List Int) : List Value := l.map (Value.int .i64)
theorem intsI_one (l : List Int) : ∀ u ∈ intsI l, u.oneCell' = true := by
  intro u hu
  obtain ⟨x, _, rfl⟩ := List.mem_map.1 hu
  rfl
theorem Ints.cells {w : World} {b off c : Nat} {l : List Int} {n : Nat} (h : Ints w (.slice (some ⟨b, off, none⟩) n c) l) : ∀ j u, (intsI l)[j]? = some u → w.cell? ((⟨b, off, none⟩ : Addr).add j) = some u := by
  intro j u hu
  have hj : j < l.length := by
    rcases Nat.lt_or_ge j l.length with h1 | h1
    · exact h1
    · rw [List.getElem?_eq_none (by simpa [intsI] using h1)] at hu; cases hu
  obtain ⟨b', off', e, _, _, hx⟩ := h.at j hj
  cases e
  rw [show (⟨b, off, none⟩ : Addr).add j = ⟨b, off + j, none⟩ from by unfold Addr.add; split <;> simp_all, hx]
  simp [intsI, hj] at hu
  rw [← hu]; simp [hj]
theorem Ints.of_ownI {w : World} {base : Nat} {v : Value} {n : Nat} {l : List Int} (h : w.ownsRow base 3 1 v n (intsI l)) : Ints w v l := by
  have hl : n = l.length := by have := h.1; simpa [intsI] using this.symm
  subst hl
  rcases h.2 with ⟨rfl, h0⟩ | ⟨g, cap, cur, rfl, h4⟩
  · exact .inl ⟨List.length_eq_zero_iff.1 h0, none, 0, rfl⟩
  · refine .inr ⟨g, 0, cap, rfl, h4.2.2.1, fun i hi => ?_⟩
    have := h.cells rfl i (.int .i64 (l.getD i 0)) (by simp [intsI, hi])
    rw [show (⟨g, 0, none⟩ : Addr).add i = ⟨g, 0 + i, none⟩ from by unfold Addr.add; split <;> simp_all] at this
    exact this

/-- 'append(nil, xs...)': a row of the call's own with the same numbers. -/
theorem wpListIn_append_to_nil {F : Fence} {n : Nat} (w : World) {ops : Array Oper} {rest : List Oper} {o : Oper} {a : Act} {Q : Exit → Act → World → Prop}
    (hg : o.guard = none) (s x : Operand) (hop : o.op = Op.call { callee := Callee.builtin Builtin.append, args := #[s, x], argTypes := #[22, 22] })
    (hs : a.eval s = .slice none 0 0) (u : Value) (hx : a.eval x = u) (l : List Int) (hu : Ints w u l) (b2 : l.length * 8 ≤ 140737488355328)
    (hK : ∀ v' w', w'.ownsRow w.heap.size 3 1 v' l.length (intsI l) → Below w.heap.size w w' → wpListIn F n Tryd.prog ops Q rest (a.put o.dst v') w') :
    wpListIn F n Tryd.prog ops Q (o :: rest) a w := by
  obtain ⟨i0, hi, hz0, hz1, hz2⟩ := info_parts info_int
  rcases hu with ⟨rfl, A, c, rfl⟩ | ⟨b, off, c, rfl, hc, hcell⟩
  · rcases A with _ | ad
    · have hrun : ∀ ty w, (Builtin.append_ #[22, 22] ty #[.slice none 0 0, .slice none 0 c]).run Tryd.prog w = .ok (.slice none 0 0) w := fun ty w => by
        simp [Builtin.append_, run_underlying Tryd.underlying22, sizeOf, typeInfo, hi, Builtin.lenOf, Builtin.firstCells]
      refine wpListIn_plain hg fun K hK' => ?_
      unfold Oper.wpIn
      refine ⟨?_, ?_⟩
      · simp [Oper.about, hop, resolve, Target.leads, Sem.run_pure]
      · rw [Oper.semAt_plain F _ _ (by rw [hop]; intro c hc'; cases hc')]
        simp [execOp, hop, resolve, invoke, builtin, hs, hx, hrun, Result.andThen]
        exact hK' _ _ (hK _ _ (World.ownsRow_nil _ _ _ _) (Below.refl _ _))
    · refine wpListIn_append_own w hg s x 22 hop w.heap.size 3 i0 (.int .i64 0) 1 8 Tryd.underlying22 hi hz0 hz1 hz2 rfl (by decide) _ 0 [] hs (World.ownsRow_nil _ _ _ _) ad 0 c [] hx rfl (fun j u h => by cases h) (fun u h => by cases h) (by unfold maxLen; omega) (by omega) (Nat.le_refl _) ?_
      intro v' w' hown hgrow _
      refine hK v' w' (by simpa [intsI] using hown) ((Below.refl _ w).grown hgrow (Nat.le_refl _) (fun k e => ?_))
      simp [Value.ownBlock] at e
  · have hI : Ints w (.slice (some ⟨b, off, none⟩) l.length c) l := .inr ⟨b, off, c, rfl, hc, hcell⟩
    refine wpListIn_append_own w hg s x 22 hop w.heap.size 3 i0 (.int .i64 0) 1 8 Tryd.underlying22 hi hz0 hz1 hz2 rfl (by decide) _ 0 [] hs (World.ownsRow_nil _ _ _ _) ⟨b, off, none⟩ l.length c (intsI l) hx (by simp [intsI]) hI.cells (intsI_one l) (by unfold maxLen; omega) (by omega) (Nat.le_refl _) ?_
    intro v' w' hown hgrow _
    refine hK v' w' (by simpa using hown) ((Below.refl _ w).grown hgrow (Nat.le_refl _) (fun k e => ?_))
    simp [Value.ownBlock] at e

/-- A slice of ints that came in reads as a list; it is no longer than it may be. -/
theorem open_Ints {H : Type} {enc : TypeId × Value → H} {W : World} {a : Option Addr} {len cap : Nat} {d : DataW H} {ps : List MemPlace} {ts : List TypeId} {ds : List (DataW H)} {j : Nat}
    (hsz : (DataW.weightsEach Tryd.prog ts ds).all (· ≤ reachBytes) = true) (ht : ts[j]? = some 22) (hd : ds[j]? = some d)
    (h : DataW.Trod enc Tryd.prog W 0 (fun _ => true) true 22 (.slice a len cap) d ps) : ∃ l : List Int, l.length = len ∧ Ints W (.slice a len cap) l ∧ l.length * 8 ≤ 140737488351232 := by
  obtain ⟨fuel, hf⟩ := h
  rcases ChangeShapes.open_ints Tryd.underlying22 Tryd.underlying3 (by kernel_rfl) hf with ⟨hcs, _⟩ | ⟨x, n, c, zs, hcs, _, hl, _, hz, hx, hcell, _⟩
  · simp [Value.cells] at hcs
    obtain ⟨rfl, rfl, rfl⟩ := hcs
    exact ⟨[], rfl, .inl ⟨rfl, none, 0, rfl⟩, by simp⟩
  · simp [Value.cells] at hcs
    obtain ⟨rfl, rfl, rfl⟩ := hcs
    obtain ⟨hx, _⟩ := Prod.mk.inj hx
    subst hx
    have z := sized_slice hsz ht hd Tryd.underlying22
    rw [show Tryd.prog.bytesOf 3 = 8 by kernel_rfl] at z
    have hzl : zs.length = cap := by simpa using hz
    have hlt : (zs.take len).length = len := by rw [List.length_take]; omega
    have z' : len * 8 ≤ 140737488351232 := by
      have h1 : (ChangeShapes.lits (H := H) .i64 (zs.take len)).length = len := by simp [ChangeShapes.lits]; omega
      rw [h1] at z
      have : reachBytes = 140737488351232 := rfl
      omega
    refine ⟨zs.take len, hlt, ?_, by rw [hlt]; exact z'⟩
    rcases Nat.eq_zero_or_pos len with h0 | h0
    · subst h0
      exact .inl ⟨by simp, _, _, rfl⟩
    · obtain ⟨b, off, rfl, hc⟩ := ints_at hcell (by omega)
      refine .inr ⟨b, off, cap, by rw [hlt], by omega, fun i hi => ?_⟩
      rw [hc i (by omega)]
      have : i < len := by omega
      simp [List.getD, this]

theorem each_not_nil (b : Nat) (w : World) : (Go.binOp .eql 37 (.func (.func 38) #[] #[.pointer (some ⟨b, 0, none⟩)]) .nilFunc).run Tryd.prog w = .ok (.bool false) w := by kernel_rfl

theorem put_below {n D : Nat} {A W : World} {o : Obj} (h : Below n A W) (hD : n ≤ D) : Below n A (W.putObj D o) :=
  h.trans ⟨rfl, rfl, rfl, by simp, fun k hk => World.putObj_heap_other (by omega)⟩
theorem below_put2 {n D1 D2 : Nat} {A W : World} {o o' : Obj} (h : Below n A W) (h1 : n ≤ D1) (h2 : n ≤ D2) : Below n A ((W.putObj D2 o).putObj D1 o') := put_below (put_below h h2) h1
theorem keep_put {D1 D2 : Nat} {W : World} {o o' : Obj} (hne : D1 ≠ D2) (h : W.heap[D1]? = some o') : (W.putObj D2 o).heap[D1]? = some o' := by
  rw [World.putObj_heap_other hne]; exact h
theorem own_form {W : World} {base : Nat} {v : Value} {k : Nat} {xs : List Value} (h : W.ownsRow base 3 1 v (k + 1) xs) : ∃ g cap, v = .slice (some ⟨g, 0, none⟩) (k + 1) cap ∧ k + 1 ≤ cap := by
  rcases h.2 with ⟨_, h0⟩ | ⟨g, cap, _, rfl, _, _, hc, _⟩
  · omega
  · exact ⟨g, cap, rfl, hc⟩

set_option maxRecDepth 100000 in
set_option maxHeartbeats 4000000 in
theorem maskLists_in (u : Value) (l : List Int) (a : Nat) (most : Int) (hb : l.length * 8 ≤ 140737488351232) (ha : a < 18446744073709551616) (w : World) (hI : Ints w u l) (hT : Tab w) :
    CallsIn Fence.wide 9 Tryd.prog 3 #[u, .int .u64 a, .int .i64 most] w fun e w' => e = .returned (.bool true) ∧ Below w.heap.size w w' := by
  obtain ⟨i0, hi, hz0, hz1, hz2⟩ := info_parts info_int
  obtain ⟨ua, uc, rfl⟩ := hI.len
  have hnn := each_not_nil
  have hlt0 := hT.lt
  have hB0 : Below w.heap.size w (w.alloc (.cells #[.int .i64 most] 3)) := (Below.refl _ w).alloc (Nat.le_refl _) _
  have hI0 := hI.below hB0
  replace hT := Lib.hid hT
  replace hI := Lib.hid hI
  refine callsIn_of_wp_marks Tryd.func3 rfl trivial ?_ rfl
  simp only [Tryd.ntmps3, List.size_toArray, List.length_cons, List.length_nil, Nat.reduceAdd, Nat.reduceSub, Array.replicate_succ, Array.replicate_zero, List.push_toArray, List.append_toArray, List.nil_append, List.cons_append]
  gi_wp2_with (first
    | (gi_at_builtin; refine wpListIn_append_to_nil _ rfl (.tmp 19) (.tmp 20) rfl rfl (.slice ua l.length uc) rfl l hI0 (by omega) ?_; intro v1 w1 hown1 hB1; rw [World.size_alloc] at hown1 hB1; have hs1 := hB1.size; rw [World.size_alloc] at hs1)
    | (gi_at_builtin; refine wpListIn_append_own _ rfl (.tmp 21) (.tmp 22) 22 rfl (w.heap.size + 1) 3 i0 (.int .i64 0) 1 8 Tryd.underlying22 hi hz0 hz1 hz2 rfl (by decide) _ _ _ rfl (hown1.alloc _) ⟨w1.heap.size, 0, none⟩ 1 1 [.int .i64 (-77)] rfl rfl (cell_one_new _ _ _) (by simp [Value.oneCell']) (by unfold maxLen; omega) (by omega) (by simp; omega) ?_; intro v2 w2 hown2 hgrow2 _; obtain ⟨g2, c2, rfl, hc2⟩ := own_form hown2; have hlc : l.length ≤ c2 := by omega))
  have hBx : Boxed (w.alloc (.cells #[.int .i64 most] 3)) w.heap.size 3 (.int .i64 most) := Boxed.new w _ _
  have hB1' : Below w.heap.size w w1 := hB0.trans (hB1.mono (by omega))
  have hBx1 : Boxed w1 w.heap.size 3 (.int .i64 most) := (hB1.block _ (by omega)).trans hBx
  have hBlow : ∀ k, v1.ownBlock = some k → w.heap.size + 1 ≤ k := fun k e => ((hown1.alloc (.cells #[.int .i64 (-77)] 3)).lt k e).1
  have hB2 : Below w.heap.size w w2 := ((hB1'.alloc (by omega) _).grown hgrow2 (by simp; omega) (fun k e => by have := hBlow k e; omega))
  have hBx2 : Boxed w2 w.heap.size 3 (.int .i64 most) := (hBx1.alloc _).kept hgrow2 (fun e => by have := hBlow _ e.symm; omega)
  have hIg : Ints w2 (.slice (some ⟨g2, 0, none⟩) (l.length + 1) c2) (l ++ [-77]) := Ints.of_ownI (by have := hown2; simpa [intsI] using this)
  have hcg : w2.cell? ⟨g2, l.length, none⟩ = some (.int .i64 (-77)) := by
    obtain ⟨b', o', e, _, _, hx⟩ := hIg.at l.length (by simp)
    cases e
    simpa using hx
  have hIg' : Ints w2 (.slice (some ⟨g2, 0, none⟩) l.length c2) l := .inr ⟨g2, 0, c2, rfl, by omega, fun i hi => by
    obtain ⟨b', o', e, _, _, hx⟩ := hIg.at i (by simp; omega)
    cases e
    rw [hx]; simp [List.getD, List.getElem?_append, hi]⟩
  have hI2 := hI.out.below hB2
  have hT2 := hT.out.belowAll hB2
  have cOf := of_list _ l (by omega) w2 hIg'
  rw [of_made] at cOf
  have cMade := made_any _ l (by omega) w2 hI2
  clear hIg hBlow hBx hBx1 hB1' hgrow2 hown2 hs1 hB1 hown1 hI0 hI hT
  generalize madeF l = mf at *
  generalize madeE l = me at *
  refine ⟨trivial, callsIn_wide.2 (cOf.mono ?_)⟩
  rintro e w2 ⟨rfl, rfl⟩
  gi_wp2_with fail
  refine ⟨trivial, callsIn_wide.2 (cMade.mono ?_)⟩
  rintro e w3 ⟨rfl, hB3⟩
  have hst := run_cells_fresh w3 mf
  have hI3 := hI2.below hB3
  have hIg3 := hIg'.below hB3
  have hcg3 : w3.cell? ⟨g2, l.length, none⟩ = some (.int .i64 (-77)) := (hB3.cell (p := ⟨g2, l.length, none⟩) (block_lt_of_cell hcg)).trans hcg
  have hBx3 : Boxed w3 w.heap.size 3 (.int .i64 most) := (hB3.block _ hBx2.lt).trans hBx2
  have hT3 := hT2.belowAll hB3
  have hB3' := hB2.trans (hB3.mono hB2.size)
  clear cOf cMade hI2 hIg' hcg hBx2 hT2 hB2 hB3
  have bS : Blk (w3.alloc (.cells (setC mf) 29)) w3.heap.size (setC mf) 29 := Blk.new w3 _ _
  have hal : Below w3.heap.size w3 (w3.alloc (.cells (setC mf) 29)) := (Below.refl _ _).alloc (Nat.le_refl _) _
  gi_wp2_with (refine wpListIn_load_row rfl 29 (.tmp 10) rfl w3.heap.size rfl 29 _ (0, 0) _ bS.eq Tryd.underlying29 rfl (size_set _) ?_)
  clear hst
  refine ⟨trivial, callsIn_wide.2 ((word_any mf _).mono ?_)⟩
  rintro e w4 ⟨rfl, hB4⟩
  have hI4 := (hI3.below hal).below hB4
  have hIg4 := (hIg3.below hal).below hB4
  have hcg4 : w4.cell? ⟨g2, l.length, none⟩ = some (.int .i64 (-77)) := ((hal.trans (hB4.mono hal.size)).cell (p := ⟨g2, l.length, none⟩) (block_lt_of_cell hcg3)).trans hcg3
  have hBx4 : Boxed w4 w.heap.size 3 (.int .i64 most) := ((hal.trans (hB4.mono hal.size)).block _ hBx3.lt).trans hBx3
  have hT4 := hT3.belowAll (hal.trans (hB4.mono hal.size))
  have hB4' := hB3'.trans ((hal.trans (hB4.mono hal.size)).mono hB3'.size)
  clear hI3 hIg3 hcg3 hBx3 hT3 hB3' hB4 hal bS
  have hl0 : (0 : Int) ≤ (l.length : Int) := by omega
  have hl1 : (l.length : Int) < ((l.length + 1 : Nat) : Int) := by omega
  have hl2 : (l.length : Int) ≤ (c2 : Int) := by omega
  gi_wp2_with fail
  refine ⟨trivial, callsIn_wide.2 ((ints_any _ _ l l (by omega) w4 hIg4 hI4).mono ?_)⟩
  rintro e w5 ⟨rfl, hB5⟩
  rw [show decide (l = l) = true from by simp]
  have hBx5 : Boxed w5 w.heap.size 3 (.int .i64 most) := (hB5.block _ hBx4.lt).trans hBx4
  have hT5 := hT4.belowAll hB5
  have hB5' := hB4'.trans (hB5.mono hB4'.size)
  clear hI4 hIg4 hcg4 hBx4 hT4 hB4' hB5 hl0 hl1 hl2 hlc hc2
  gi_wp2_with fail
  refine ⟨trivial, callsIn_wide.2 ((of_any a w5 ha).mono ?_)⟩
  rintro e w6 ⟨rfl, hB6⟩
  gi_wp2_with fail
  refine ⟨trivial, callsIn_wide.2 ((numbers_any a.testBit w6).mono ?_)⟩
  rintro e w7 ⟨v7, rfl, hrow7, hB7⟩
  have hW7 : Ints w7 v7 (asInts (nums a)) := Ints.of_own hrow7
  have hB67 := hB6.trans (hB7.mono hB6.size)
  have hBx7 : Boxed w7 w.heap.size 3 (.int .i64 most) := (hB67.block _ hBx5.lt).trans hBx5
  have hT7 := hT5.belowAll hB67
  have hB7' := hB5'.trans (hB67.mono hB5'.size)
  obtain ⟨va, vc, rfl⟩ := hW7.len
  clear hBx5 hT5 hB5' hB6 hB7 hB67 hrow7
  gi_wp2_with fail
  refine ⟨trivial, (each_in 8 a _).mono ?_⟩
  rintro e w8 ⟨rfl, rfl⟩
  have hal : Below w7.heap.size w7 (w7.alloc (.cells #[.int .u64 a] 24)) := (Below.refl _ _).alloc (Nat.le_refl _) _
  have hM8 : Boxed (w7.alloc (.cells #[.int .u64 a] 24)) w7.heap.size 24 (.int .u64 a) := Boxed.new _ _ _
  have hW8 := hW7.below hal
  have hBx8 : Boxed (w7.alloc (.cells #[.int .u64 a] 24)) w.heap.size 3 (.int .i64 most) := (hal.block _ hBx7.lt).trans hBx7
  have hT8 := hT7.belowAll hal
  have hB8 := hB7'.trans (hal.mono hB7'.size)
  obtain ⟨bM, hbM⟩ : ∃ bM, w7.heap.size = bM := ⟨_, rfl⟩
  rw [hbM] at hM8 ⊢
  clear hW7 hBx7 hT7 hB7' hal
  generalize w7.alloc (.cells #[.int .u64 a] 24) = W8 at *
  clear hbM
  gi_wp2_with fail
  refine ⟨trivial, (mnums_in 8 (by omega) a ha W8 hT8).mono ?_⟩
  rintro e w9 ⟨v9, rfl, hrow9, hB9⟩
  have hN9 : Ints w9 v9 (asInts (nums a)) := Ints.of_own hrow9
  have hW9 := hW8.below hB9
  obtain ⟨na, nc, rfl⟩ := hN9.len
  have hM9 : Boxed w9 bM 24 (.int .u64 a) := (hB9.block _ hM8.lt).trans hM8
  have hBx9 : Boxed w9 w.heap.size 3 (.int .i64 most) := (hB9.block _ hBx8.lt).trans hBx8
  have hT9 := hT8.belowAll hB9
  have hB9' := hB8.trans (hB9.mono hB8.size)
  clear hrow9 hW8 hM8 hBx8 hT8 hB8 hB9
  have hlen : (asInts (nums a)).length ≤ 64 := by have := nums_le a; simpa [asInts] using this
  gi_wp2_with fail
  refine ⟨trivial, callsIn_wide.2 ((ints_any _ _ (asInts (nums a)) (asInts (nums a)) (by omega) w9 hN9 hW9).mono ?_)⟩
  rintro e w10 ⟨rfl, hB10⟩
  rw [show decide (asInts (nums a) = asInts (nums a)) = true from by simp]
  have hW10 := hW9.below hB10
  have hM10 : Boxed w10 bM 24 (.int .u64 a) := (hB10.block _ hM9.lt).trans hM9
  have hBx10 : Boxed w10 w.heap.size 3 (.int .i64 most) := (hB10.block _ hBx9.lt).trans hBx9
  have hT10 := hT9.belowAll hB10
  have hB10' := hB9'.trans (hB10.mono hB9'.size)
  clear hN9 hW9 hM9 hBx9 hT9 hB9' hB10 hlen
  have hal : Below w10.heap.size w10 (w10.alloc (.cells #[.slice none 0 0] 22)) := (Below.refl _ _).alloc (Nat.le_refl _) _
  have hO11 : Boxed (w10.alloc (.cells #[.slice none 0 0] 22)) w10.heap.size 22 (.slice none 0 0) := Boxed.new _ _ _
  have hM11 : Boxed (w10.alloc (.cells #[.slice none 0 0] 22)) bM 24 (.int .u64 a) := (hal.block _ hM10.lt).trans hM10
  have hT11 := hT10.belowAll hal
  have hMlt := hM10.lt
  have hlt10 : 0 < w10.heap.size := by omega
  have hBlt := hBx10.lt
  have hpl := nums_le a
  gi_wp2_with fail
  refine wpIn_range_each (p := 79) (s := 16) 0 a bM w10.heap.size ha rfl hM11 hT11 hlt10 (by simp)
    (fun pre W => Coll w10.heap.size w10 pre W ∧ (most ≤ 0 ∨ (pre.length : Int) < most)) (fun pre W => Coll w10.heap.size w10 pre W ∧ 0 < most ∧ (pre.length : Int) = most)
    (OwnFrom.and (coll_own (by simp) (Nat.le_refl _)) (own_const _)) (OwnFrom.and (coll_own (by simp) (Nat.le_refl _)) (own_const _))
    ⟨⟨⟨_, hO11, World.ownsRow_nil _ _ _ _, by simp⟩, hal⟩, by simp; omega⟩ ?assign ?body ?hq ?hend
  case assign =>
    intro l x W K hK
    gi_wp2
    exact hK
  case body =>
    rintro l pre x W ⟨⟨⟨v, hv, hrow, hnil⟩, hB⟩, hmo⟩ hlt
    simp only [roundAct, List.setIfInBounds_toArray, List.set_cons_succ, List.set_cons_zero]
    have hc := hv.cell
    have hms : W.cell? ⟨w.heap.size, 0, none⟩ = some (.int .i64 most) := (hB.cell (p := ⟨w.heap.size, 0, none⟩) hBlt).trans hBx10.cell
    replace hnil := Lib.hid hnil
    by_cases hend : ((pre.length + 1 : Nat) : Int) = most
    · have ht : (((pre.length + 1 : Nat) : Int) == most) = true := by simp [hend]
      have ht' : (((pre.length : Nat) : Int) + 1 == most) = true := by simp; omega
      replace hend := Lib.hid hend
      gi_wp2_with (gi_at_builtin; refine wpListIn_append_own _ rfl (.tmp 80) (.tmp 82) 22 rfl w10.heap.size 3 i0 (.int .i64 0) 1 8 Tryd.underlying22 hi hz0 hz1 hz2 rfl (by decide) _ _ _ rfl (hrow.alloc _) ⟨W.heap.size, 0, none⟩ 1 1 [.int .i64 x] rfl rfl (cell_one_new _ _ _) (by simp [Value.oneCell']) (by unfold maxLen; omega) (by omega) (by have := hB.size; simp; omega) ?_; intro v' w1' hown' hgrow _; obtain ⟨g', cap', rfl⟩ := ownsRow_succ hown'; obtain ⟨hv1, hv2, hr2, hk2, hb2⟩ := hv.appended (by decide) hrow hB.size (Nat.le_refl _) hown' hgrow; have hc1 := hv1.cell; have hf1 := hv1.frozen; have hc2 := hv2.cell; have hm2 := (hb2.cell (p := ⟨w.heap.size, 0, none⟩) hBlt).trans hms)
      exact ⟨hk2.from _, rfl, ⟨⟨_, hv2, by simpa [intsV] using hr2, by simp⟩, hB.trans hb2⟩, by have := hend.out; omega, by rw [← hend.out]; simp⟩
    · have ht : (((pre.length + 1 : Nat) : Int) == most) = false := by simp; omega
      have ht' : (((pre.length : Nat) : Int) + 1 == most) = false := by simp; omega
      have hmo2 : most ≤ 0 ∨ ((pre.length + 1 : Nat) : Int) < most := by omega
      replace hmo2 := Lib.hid hmo2
      replace hend := Lib.hid hend
      gi_wp2_with (gi_at_builtin; refine wpListIn_append_own _ rfl (.tmp 80) (.tmp 82) 22 rfl w10.heap.size 3 i0 (.int .i64 0) 1 8 Tryd.underlying22 hi hz0 hz1 hz2 rfl (by decide) _ _ _ rfl (hrow.alloc _) ⟨W.heap.size, 0, none⟩ 1 1 [.int .i64 x] rfl rfl (cell_one_new _ _ _) (by simp [Value.oneCell']) (by unfold maxLen; omega) (by omega) (by have := hB.size; simp; omega) ?_; intro v' w1' hown' hgrow _; obtain ⟨g', cap', rfl⟩ := ownsRow_succ hown'; obtain ⟨hv1, hv2, hr2, hk2, hb2⟩ := hv.appended (by decide) hrow hB.size (Nat.le_refl _) hown' hgrow; have hc1 := hv1.cell; have hf1 := hv1.frozen; have hc2 := hv2.cell; have hm2 := (hb2.cell (p := ⟨w.heap.size, 0, none⟩) hBlt).trans hms)
      exact ⟨hk2.from _, hb2, ⟨⟨_, hv2, by simpa [intsV] using hr2, by simp⟩, hB.trans hb2⟩, by have := hmo2.out; simpa using this⟩
  case hq => intro a' W h; exact h
  case hend =>
    rintro D1 W1 hD1 hcase hK1
    obtain ⟨p1, ⟨⟨v1', hv1, hrow1, hnil1⟩, hB11⟩, hp1⟩ : ∃ p1, Coll w10.heap.size w10 p1 W1 ∧ ((0 < most ∧ most < ((nums a).length : Int) → p1 = (nums a).take most.toNat) ∧ (¬ (0 < most ∧ most < ((nums a).length : Int)) → p1 = nums a)) := by
      rcases hcase with ⟨h1, h2⟩ | ⟨pre, hpre, h1, h2, h3⟩
      · exact ⟨_, h1, fun h => by omega, fun _ => rfl⟩
      · have e := List.prefix_iff_eq_take.1 hpre
        have hle := hpre.length_le
        refine ⟨pre, h1, fun h => ?_, fun h => ?_⟩
        · rw [show most.toNat = pre.length by omega]; exact e
        · rw [List.take_of_length_le (by omega)] at e; exact e
    have hT1 : Ints W1 v1' (asInts p1) := Ints.of_own hrow1
    have hlow : ∀ k, v1'.ownBlock = some k → k < W1.heap.size := fun k e => (hrow1.lt k e).2
    obtain ⟨ta, tc, rfl⟩ := hT1.len
    have hW1 := hW10.below hB11
    have hM1 : Boxed W1 bM 24 (.int .u64 a) := (hB11.block _ hM10.lt).trans hM10
    have hBx1 : Boxed W1 w.heap.size 3 (.int .i64 most) := (hB11.block _ hBx10.lt).trans hBx10
    have hTb1 := hT10.belowAll hB11
    have hB1' := hB10'.trans (hB11.mono hB10'.size)
    have hs10 := hB11.size
    have hs0 := hB10'.size
    clear hcase hrow1 hnil1 hlow hB11 hT11 hO11 hM11 hal hT10 hM10 hBx10 hW10 hB10'
    have hal : Below W1.heap.size W1 (W1.alloc (.cells #[.slice none 0 0] 22)) := (Below.refl _ _).alloc (Nat.le_refl _) _
    have hO2 : Boxed (W1.alloc (.cells #[.slice none 0 0] 22)) W1.heap.size 22 (.slice none 0 0) := Boxed.new _ _ _
    have hM2 : Boxed (W1.alloc (.cells #[.slice none 0 0] 22)) bM 24 (.int .u64 a) := (hal.block _ hM1.lt).trans hM1
    have hTb2 := hTb1.belowAll hal
    have hlt1 := hTb1.lt
    have hMlt1 := hM1.lt
    gi_wp2_with fail
    refine wpIn_range_each (p := 89) (s := 18) 2 a bM W1.heap.size ha rfl hM2 hTb2 hlt1 (by simp)
      (fun pre W => Coll W1.heap.size W1 pre W) (fun _ _ => False)
      (coll_own (by simp) (Nat.le_refl _)) (fun _ _ _ _ hs _ _ => hs)
      ⟨⟨_, hO2, World.ownsRow_nil _ _ _ _, by simp⟩, hal⟩ ?assign2 ?body2 ?hq2 ?hend2
    case assign2 =>
      intro l x W K hK
      gi_wp2
      exact hK
    case body2 =>
      rintro l pre x W ⟨⟨v, hv, hrow, hnil⟩, hB⟩ hlt
      simp only [roundAct, List.setIfInBounds_toArray, List.set_cons_succ, List.set_cons_zero]
      have hc := hv.cell
      replace hnil := Lib.hid hnil
      gi_wp2_with (gi_at_builtin; refine wpListIn_append_own _ rfl (.tmp 90) (.tmp 92) 22 rfl W1.heap.size 3 i0 (.int .i64 0) 1 8 Tryd.underlying22 hi hz0 hz1 hz2 rfl (by decide) _ _ _ rfl (hrow.alloc _) ⟨W.heap.size, 0, none⟩ 1 1 [.int .i64 x] rfl rfl (cell_one_new _ _ _) (by simp [Value.oneCell']) (by unfold maxLen; omega) (by omega) (by have := hB.size; simp; omega) ?_; intro v' w1' hown' hgrow _; obtain ⟨g', cap', rfl⟩ := ownsRow_succ hown'; obtain ⟨hv1, hv2, hr2, hk2, hb2⟩ := hv.appended (by decide) hrow hB.size (Nat.le_refl _) hown' hgrow; have hc1 := hv1.cell; have hf1 := hv1.frozen)
      exact ⟨hk2.from _, hb2, ⟨_, hv2, by simpa [intsV] using hr2, by simp⟩, hB.trans hb2⟩
    case hq2 => intro a' W h; exact h
    case hend2 =>
      rintro D2 W2 hD2 hcase hK2
      obtain ⟨⟨v2', hv2, hrow2, hnil2⟩, hB12⟩ : Coll W1.heap.size W1 (nums a) W2 := by
        rcases hcase with h | ⟨_, _, h⟩
        · exact h
        · exact h.elim
      have hA2 : Ints W2 v2' (asInts (nums a)) := Ints.of_own hrow2
      obtain ⟨aa, ac, rfl⟩ := hA2.len
      have hT2' := hT1.below hB12
      have hW2 := hW1.below hB12
      have hv12 : Boxed W2 w10.heap.size 22 (.slice ta (asInts p1).length tc) := (hB12.block _ hv1.lt).trans hv1
      have hBx2 : Boxed W2 w.heap.size 3 (.int .i64 most) := (hB12.block _ hBx1.lt).trans hBx1
      have hB2' := hB1'.trans (hB12.mono hB1'.size)
      have hK1' : W2.heap[D1]? = some (.deferred (some [])) := (hB12.block _ (Array.getElem?_eq_some_iff.1 hK1).1).trans hK1
      have hne : D1 ≠ D2 := by have := (Array.getElem?_eq_some_iff.1 hK1).1; simp at hD2; omega
      have hlenn : (asInts (nums a)).length = (nums a).length := by simp [asInts]
      clear hcase hrow2 hnil2 hB12 hTb2 hO2 hM2 hal hTb1 hM1 hBx1 hW1 hB1' hT1
      have hsz2 : w.heap.size ≤ D1 := by simp at hD1; omega
      have hsz3 : w.heap.size ≤ D2 := by simp at hD2; omega
      have fin := fun (W3 : World) (h : Below w.heap.size w W3) => below_put2 (o := .deferred none) (o' := .deferred none) h hsz2 hsz3
      have take2 := fun (W3 : World) (h : W3.heap[D1]? = some (.deferred (some []))) => keep_put (W := W3) (o := .deferred none) hne h
      have hcT := hv12.cell
      have hcA := hv2.cell
      have hcM := hBx2.cell
      have hle := nums_le a
      by_cases hin : 0 < most ∧ most < ((nums a).length : Int)
      · obtain ⟨q, rfl⟩ : ∃ q : Nat, most = q := ⟨most.toNat, by omega⟩
        obtain ⟨hq0, hq1⟩ := hin
        have hp := hp1.1 ⟨hq0, hq1⟩
        rw [Int.toNat_natCast] at hp
        have hq2 : q < (asInts (nums a)).length := by rw [hlenn]; omega
        have hpe : asInts p1 = (asInts (nums a)).take q := by rw [hp]; simp [asInts, List.map_take]
        obtain ⟨bw, ow, rfl, _, hcap, _⟩ := hW2.at 0 (by omega)
        have hWq : Ints W2 (.slice (some ⟨bw, ow, none⟩) q vc) (asInts p1) := by
          have hl : (asInts p1).length = q := by rw [hpe, List.length_take]; omega
          rw [← hl]
          refine .inr ⟨bw, ow, vc, rfl, by omega, fun i hi => ?_⟩
          obtain ⟨b', o', e, _, _, hx⟩ := hW2.at i (by omega)
          cases e
          rw [hx, hpe]
          have : i < q := by omega
          simp [List.getD, this]
        have c1 : ∀ d os, CallsIn Fence.wide 8 Tryd.prog 11 #[.slice ta (asInts p1).length tc, .slice (some ⟨bw, ow, none⟩) q vc] (grow (redrawn W2 d) os) fun e w'' => e = .returned (.bool true) ∧ ∃ p : Regrown, w'' = grow (redrawn W2 p.d) p.os := fun d os =>
          CallsIn.regrown_of (callsIn_wide.2 (by have := ints_any _ _ _ _ (by rw [hpe, List.length_take]; omega) _ (hT2'.below (below_regrown W2 d os)) (hWq.below (below_regrown W2 d os)); rw [show decide (asInts p1 = asInts p1) = true from by simp] at this; exact this))
        have c2 : ∀ d os, CallsIn Fence.wide 8 Tryd.prog 11 #[.slice aa (asInts (nums a)).length ac, .slice (some ⟨bw, ow, none⟩) (asInts (nums a)).length vc] (grow (redrawn W2 d) os) fun e w'' => e = .returned (.bool true) ∧ ∃ p : Regrown, w'' = grow (redrawn W2 p.d) p.os := fun d os =>
          CallsIn.regrown_of (callsIn_wide.2 (by have := ints_any _ _ _ _ (by omega) _ (hA2.below (below_regrown W2 d os)) (hW2.below (below_regrown W2 d os)); rw [show decide (asInts (nums a) = asInts (nums a)) = true from by simp] at this; exact this))
        have k1 := cell_regrown hcT
        have k2 := cell_regrown hcA
        have k3 := cell_regrown hcM
        have hq3 : (q : Int) < ((asInts (nums a)).length : Int) := by omega
        have hq4 : (0 : Int) ≤ (q : Int) := by omega
        have hq5 : (q : Int) ≤ (vc : Int) := by omega
        replace hp := Lib.hid hp
        replace hpe := Lib.hid hpe
        replace hp1 := Lib.hid hp1
        replace c1 := Lib.hid c1
        replace c2 := Lib.hid c2
        replace hlenn := Lib.hid hlenn
        replace fin := Lib.hid fin
        replace take2 := Lib.hid take2
        gi_wp2_with fail
        have hwide : ∀ f, Fence.wide.fn f := fun _ => trivial
        refine wpIn_region_quiet_below rfl (by kernel_rfl) (by kernel_rfl) ?_
        repeat (gi_big_quiet_step (first | (with_reducible exact c1.out _ _) | (with_reducible exact c2.out _ _)))
        refine wpQuietIn_nil ?_
        intro _ hw'
        obtain ⟨⟨dq, osq⟩, hw''⟩ := hw'
        subst hw''
        have hB3 := below_regrown W2 dq osq
        have hB3' := hB2'.trans (hB3.mono hB2'.size)
        have hK2' := (hB3.block D2 (Array.getElem?_eq_some_iff.1 hK2).1).trans hK2
        have hK1'' := (hB3.block D1 (Array.getElem?_eq_some_iff.1 hK1').1).trans hK1'
        clear k1 k2 k3 hcT hcA hcM hwide
        replace hB3' := Lib.hid hB3'
        replace hK2' := Lib.hid hK2'
        replace hK1'' := Lib.hid hK1''
        clear hB3 hK2 hK1'
        generalize grow (redrawn W2 dq) osq = W3 at *
        gi_wp2
        refine ⟨by simp, .inl ⟨_, _, rfl, run_takeDeferred hK2'.out, ?_⟩⟩
        refine ⟨by simp, .inl ⟨_, _, rfl, run_takeDeferred (take2.out _ hK1''.out), ?_⟩⟩
        exact ⟨_, results_tmp rfl _ _ _, rfl, fin.out _ hB3'.out⟩
      · have hp := hp1.2 hin
        subst hp
        have c1 : ∀ W, Below W2.heap.size W2 W → CallsIn Fence.wide 8 Tryd.prog 11 #[.slice ta (asInts (nums a)).length tc, .slice va (asInts (nums a)).length vc] W fun e w'' => e = .returned (.bool true) ∧ Below W.heap.size W w'' := fun W h =>
          callsIn_wide.2 (by have := ints_any _ _ _ _ (by omega) W (hT2'.below h) (hW2.below h); rw [show decide (asInts (nums a) = asInts (nums a)) = true from by simp] at this; exact this)
        have c2 : ∀ W, Below W2.heap.size W2 W → CallsIn Fence.wide 8 Tryd.prog 11 #[.slice aa (asInts (nums a)).length ac, .slice va (asInts (nums a)).length vc] W fun e w'' => e = .returned (.bool true) ∧ Below W.heap.size W w'' := fun W h =>
          callsIn_wide.2 (by have := ints_any _ _ _ _ (by omega) W (hA2.below h) (hW2.below h); rw [show decide (asInts (nums a) = asInts (nums a)) = true from by simp] at this; exact this)
        have hcase : most ≤ 0 ∨ (0 < most ∧ ((asInts (nums a)).length : Int) ≤ most) := by omega
        replace hlenn := Lib.hid hlenn
        replace c1 := Lib.hid c1
        replace c2 := Lib.hid c2
        replace hp1 := Lib.hid hp1
        replace hin := Lib.hid hin
        replace fin := Lib.hid fin
        replace take2 := Lib.hid take2
        have kA : ∀ W, Below W2.heap.size W2 W → W.cell? ⟨W1.heap.size, 0, none⟩ = some (.slice aa (asInts (nums a)).length ac) := fun W h => (h.cell (p := ⟨W1.heap.size, 0, none⟩) (block_lt_of_cell hcA)).trans hcA
        replace kA := Lib.hid kA
        rcases hcase with hcase | ⟨hcase, hcase2⟩
        all_goals
          gi_wp2_with fail
          refine ⟨trivial, (c1.out W2 (Below.refl _ _)).mono ?_⟩
          rintro e W3 ⟨rfl, hB3⟩
          have kA3 := kA.out _ hB3
          gi_wp2_with fail
          refine ⟨trivial, (c2.out W3 hB3).mono ?_⟩
          rintro e W4 ⟨rfl, hB4⟩
          have hB34 := hB3.trans (hB4.mono hB3.size)
          have hB3' := hB2'.trans (hB34.mono hB2'.size)
          have hK2' := (hB34.block D2 (Array.getElem?_eq_some_iff.1 hK2).1).trans hK2
          have hK1'' := (hB34.block D1 (Array.getElem?_eq_some_iff.1 hK1').1).trans hK1'
          clear kA3
          replace hB3' := Lib.hid hB3'
          replace hK2' := Lib.hid hK2'
          replace hK1'' := Lib.hid hK1''
          gi_wp2
          refine ⟨by simp, .inl ⟨_, _, rfl, run_takeDeferred hK2'.out, ?_⟩⟩
          refine ⟨by simp, .inl ⟨_, _, rfl, run_takeDeferred (take2.out _ hK1''.out), ?_⟩⟩
          exact ⟨_, results_tmp rfl _ _ _, rfl, fin.out _ hB3'.out⟩
end Go.Proofs.YtmmhcfbnelggfaaDoor
