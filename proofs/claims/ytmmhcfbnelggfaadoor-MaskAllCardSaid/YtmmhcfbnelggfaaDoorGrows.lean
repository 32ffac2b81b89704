/- MaskAll's lists while they grow. -/
import Derived.Test.YtmmhcfbnelggfaaDoorThree
namespace Go.Proofs.YtmmhcfbnelggfaaDoor
open Go.RowKit Go.Shelf

def pick3 (a b c : Value) : Nat → Value
  | 0 => a
  | 1 => b
  | _ => c
def pickL (a b c : List Int) : Nat → List Int
  | 0 => a
  | 1 => b
  | _ => c
theorem intsV_asInts (l : List Nat) : intsV l = intsI (asInts l) := by simp [intsV, intsI, asInts]
theorem apart_of {w w' : World} {B B' n n' : Nat} {e e' : TypeId} {v v' : Value} {xs xs' : List Value} (h : w.ownsRow B e 1 v n xs) (h' : w'.ownsRow B' e' 1 v' n' xs') (hle : w.heap.size ≤ B') : Apart v v' := fun k e1 e2 => by
  have := h.lt k e1
  have := h'.lt k e2
  omega
theorem Apart.ne {u v : Value} (h : Apart u v) : v.ownBlock = none ∨ v.ownBlock ≠ u.ownBlock := by
  cases e : v.ownBlock with
  | none => exact .inl rfl
  | some k => exact .inr fun e2 => h k e2.symm e
theorem Apart.grows {w : World} {B n : Nat} {e : TypeId} {l l' v : Value} {xs : List Value} (hat : l'.ownBlock = l.ownBlock ∨ l'.ownBlock = some w.heap.size) (h : Apart l v) (hv : w.ownsRow B e 1 v n xs) : Apart l' v := fun k e1 e2 => by
  rcases hat with h1 | h1
  · exact h k (h1 ▸ e1) e2
  · rw [h1] at e1; cases e1
    have := hv.lt _ e2
    omega
theorem three_made (W W1 W2 W3 : World) (v0 v1 v2 : Value) (l0 l1 l2 : List Int) (h0 : W1.ownsRow W.heap.size 3 1 v0 l0.length (intsI l0)) (hB1 : Below W.heap.size W W1)
    (h1 : W2.ownsRow W1.heap.size 3 1 v1 l1.length (intsI l1)) (hB2 : Below W1.heap.size W1 W2) (h2 : W3.ownsRow W2.heap.size 3 1 v2 l2.length (intsI l2)) (hB3 : Below W2.heap.size W2 W3) :
    Three W.heap.size W W3.heap.size (pick3 v0 v1 v2) (pickL l0 l1 l2) (W3.alloc (.cells #[v0, v1, v2] 22)) := by
  have s1 := hB1.size
  have s2 := hB2.size
  have s3 := hB3.size
  have a01 := apart_of h0 h1 (Nat.le_refl _)
  have a02 := apart_of h0 h2 s2
  have a12 := apart_of h1 h2 (Nat.le_refl _)
  refine ⟨((hB1.trans (hB2.mono s1)).trans (hB3.mono (by omega))).alloc (by omega) _, Blk.new _ _ _, by omega, ?_, ?_⟩
  · intro i hi
    match i, hi with
    | 0, _ => exact (own_below (own_below h0 hB2) (hB3)).alloc _
    | 1, _ => exact (own_base (own_below h1 hB3) s1).alloc _
    | 2, _ => exact (own_base h2 (by omega)).alloc _
  · intro i j hi hj hne
    match i, j, hi, hj with
    | 0, 0, _, _ => exact absurd rfl hne
    | 0, 1, _, _ => exact a01
    | 0, 2, _, _ => exact a02
    | 1, 0, _, _ => exact a01.symm
    | 1, 1, _, _ => exact absurd rfl hne
    | 1, 2, _, _ => exact a12
    | 2, 0, _, _ => exact a02.symm
    | 2, 1, _, _ => exact a12.symm
    | 2, 2, _, _ => exact absurd rfl hne
/-- A row beside another that began in its block. -/
theorem own_two {w w' : World} {B n n' : Nat} {v l : Value} {X Z : List Int} (hv : w.ownsRow B 3 1 v n (intsI X)) (hl : w.ownsRow B 3 1 l n' (intsI (X ++ Z))) (hl' : w'.ownsRow B 3 1 l n' (intsI (X ++ Z))) (hg : w.grownBy w' l.ownBlock) : w'.ownsRow B 3 1 v n (intsI X) := by
  by_cases hne : v.ownBlock = none ∨ v.ownBlock ≠ l.ownBlock
  · exact hv.kept hg hne
  · have hn : v.ownBlock ≠ none := fun e => hne (.inl e)
    have he : v.ownBlock = l.ownBlock := Classical.byContradiction fun e => hne (.inr e)
    rcases hv.2 with ⟨rfl, _⟩ | ⟨g, cap, cur, rfl, h2, h3, h4, h5, h6, h7⟩
    · exact absurd rfl hn
    · rcases hl.2 with ⟨rfl, _⟩ | ⟨g1, cap1, cur1, rfl, k2, k3, k4, k5, k6, k7⟩
      · cases he
      · obtain rfl : g = g1 := by simpa [Value.ownBlock] using he
        rw [h3] at k3
        simp only [Option.some.injEq, Obj.cells.injEq, and_true] at k3
        subst k3
        rcases hl'.2 with ⟨hbad, _⟩ | ⟨g2, cap2, cur2, e2, m2, m3, m4, m5, m6, m7⟩
        · cases hbad
        · cases e2
          have hX : X.length = n := by have := hv.1; simpa [intsI] using this
          have hXZ : X.length + Z.length = n' := by have := hl.1; simpa [intsI] using this
          refine ⟨hv.1, .inr ⟨g, cap, cur2, rfl, h2, m3, h4, h5, by rw [m6, ← k6, h6], ?_⟩⟩
          have h8 := congrArg (List.take (n * 1)) m7
          rw [List.take_take, Nat.min_eq_left (by omega)] at h8
          rw [h8, Nat.mul_one]
          simp only [intsI, List.map_append]
          rw [List.take_append_of_le_length (by simp; omega), List.take_of_length_le (by simp; omega)]
theorem Three.step {B : Nat} {W0 : World} {G : Nat} {vs : Nat → Value} {X : Nat → List Int} {W W' : World} {row : Option Nat} (h : Three B W0 G vs X W) (hg : W.grownBy W' row) (hB0 : B ≤ W.heap.size) (hr : ∀ k, row = some k → B ≤ k) (hG : row ≠ some G)
    (i : Nat) (hv : ∀ j, j < 3 → j ≠ i → (vs j).ownBlock = none ∨ (vs j).ownBlock ≠ row) (hi : W'.ownsRow B 3 1 (vs i) (X i).length (intsI (X i))) : Three B W0 G vs X W' :=
  ⟨h.below.grown hg hB0 hr, h.blk.kept hg (fun e => hG e.symm), h.lo, fun j hj => by
    by_cases e : j = i
    · rw [e]; exact hi
    · exact (h.own j hj).kept hg (hv j hj e), h.apart⟩
/-- The list of lists so far. -/
structure Grows (B : Nat) (W0 : World) (G : Nat) (vs : Nat → Value) (X : Nat → List Int) (i : Nat) (vg : Value) (ls : Nat → Value) (W : World) : Prop where
  three : Three B W0 G vs X W
  row : W.ownsRow B 22 1 vg i ((List.range i).map ls)
  each : ∀ j, j < i → W.ownsRow B 3 1 (ls j) ((X j).length + 40) (intsI (X j ++ List.replicate 40 (100 + (j : Int))))
  rowG : vg.ownBlock ≠ some G
  rowV : ∀ j, j < 3 → Apart vg (vs j)
  rowL : ∀ j, j < i → Apart vg (ls j)
  eachG : ∀ j, j < i → (ls j).ownBlock ≠ some G
  eachV : ∀ j, j < i → ∀ k, k < 3 → k ≠ j → Apart (ls j) (vs k)
  eachL : ∀ j, j < i → ∀ k, k < i → k ≠ j → Apart (ls j) (ls k)
/-- .. and the list that is growing now. -/
structure Goes (B : Nat) (W0 : World) (G : Nat) (vs : Nat → Value) (X : Nat → List Int) (i k : Nat) (vg : Value) (ls : Nat → Value) (l : Value) (W : World) : Prop where
  g : Grows B W0 G vs X i vg ls W
  row : W.ownsRow B 3 1 l ((X i).length + k) (intsI (X i ++ List.replicate k (100 + (i : Int))))
  nG : l.ownBlock ≠ some G
  nR : Apart l vg
  nV : ∀ j, j < 3 → j ≠ i → Apart l (vs j)
  nL : ∀ j, j < i → Apart l (ls j)
theorem Grows.start {B : Nat} {W0 : World} {G : Nat} {vs : Nat → Value} {X : Nat → List Int} {W : World} (ls : Nat → Value) (h : Three B W0 G vs X W) : Grows B W0 G vs X 0 (.slice none 0 0) ls W :=
  ⟨h, World.ownsRow_nil _ _ _ _, fun j hj => absurd hj (by omega), fun e => by simp [Value.ownBlock] at e, fun j _ k e => by simp [Value.ownBlock] at e, fun j hj => absurd hj (by omega), fun j hj => absurd hj (by omega), fun j hj => absurd hj (by omega), fun j hj => absurd hj (by omega)⟩
theorem Grows.goes {B : Nat} {W0 : World} {G : Nat} {vs : Nat → Value} {X : Nat → List Int} {i : Nat} {vg : Value} {ls : Nat → Value} {W : World} (h : Grows B W0 G vs X i vg ls W) (hi : i < 3) : Goes B W0 G vs X i 0 vg ls (vs i) W :=
  ⟨h, by simpa using h.three.own i hi, h.three.notG i hi, (h.rowV i hi).symm, fun j hj hne => h.three.apart i j hi hj (fun e => hne e.symm), fun j hj => (h.eachV j hj i hi (by omega)).symm⟩
theorem Goes.step {B : Nat} {W0 : World} {G : Nat} {vs : Nat → Value} {X : Nat → List Int} {i k : Nat} {vg : Value} {ls : Nat → Value} {l l' : Value} {W W' : World} (h : Goes B W0 G vs X i k vg ls l W) (hi : i < 3) (hB0 : B ≤ W.heap.size)
    (ho : W'.ownsRow B 3 1 l' ((X i).length + k + 1) (intsI ((X i ++ List.replicate k (100 + (i : Int))) ++ [100 + (i : Int)]))) (hg : W.grownBy W' l.ownBlock) (hold : W'.ownsRow B 3 1 l ((X i).length + k) (intsI (X i ++ List.replicate k (100 + (i : Int)))))
    (hat : l'.ownBlock = l.ownBlock ∨ l'.ownBlock = some W.heap.size) : Goes B W0 G vs X i (k + 1) vg ls l' W' := by
  have hr : ∀ q, l.ownBlock = some q → B ≤ q := fun q e => (h.row.lt q e).1
  refine ⟨⟨h.g.three.step hg hB0 hr h.nG i (fun j hj hne => (h.nV j hj hne).ne) (own_two (h.g.three.own i hi) h.row hold hg), h.g.row.kept hg h.nR.ne, fun j hj => (h.g.each j hj).kept hg (h.nL j hj).ne, h.g.rowG, h.g.rowV, h.g.rowL, h.g.eachG, h.g.eachV, h.g.eachL⟩, ?_, ?_, h.nR.grows hat h.g.row, fun j hj hne => (h.nV j hj hne).grows hat (h.g.three.own j hj), fun j hj => (h.nL j hj).grows hat (h.g.each j hj)⟩
  · rw [List.append_assoc, ← List.replicate_succ'] at ho
    exact ho
  · intro e
    rcases hat with h1 | h1
    · exact h.nG (h1 ▸ e)
    · rw [h1] at e
      have := h.g.three.blk.lt
      simp only [Option.some.injEq] at e
      omega
theorem Goes.alloc {B : Nat} {W0 : World} {G : Nat} {vs : Nat → Value} {X : Nat → List Int} {i k : Nat} {vg : Value} {ls : Nat → Value} {l : Value} {W : World} (h : Goes B W0 G vs X i k vg ls l W) (hB0 : B ≤ W.heap.size) (o : Obj) : Goes B W0 G vs X i k vg ls l (W.alloc o) :=
  ⟨⟨h.g.three.grown (World.grownBy_alloc W o none) hB0 (fun _ e => by cases e) (by simp) (fun j _ => by cases (vs j).ownBlock <;> simp), h.g.row.alloc _, fun j hj => (h.g.each j hj).alloc _, h.g.rowG, h.g.rowV, h.g.rowL, h.g.eachG, h.g.eachV, h.g.eachL⟩, h.row.alloc _, h.nG, h.nR, h.nV, h.nL⟩
theorem Goes.push {B : Nat} {W0 : World} {G : Nat} {vs : Nat → Value} {X : Nat → List Int} {i : Nat} {vg vg' : Value} {ls : Nat → Value} {l : Value} {W W' : World} (h : Goes B W0 G vs X i 40 vg ls l W) (hi : i < 3) (hB0 : B ≤ W.heap.size)
    (ho : W'.ownsRow B 22 1 vg' (i + 1) ((List.range i).map ls ++ [l])) (hg : W.grownBy W' vg.ownBlock) (hat : vg'.ownBlock = vg.ownBlock ∨ vg'.ownBlock = some W.heap.size) :
    Grows B W0 G vs X (i + 1) vg' (fun j => if j = i then l else ls j) W' := by
  have hr : ∀ q, vg.ownBlock = some q → B ≤ q := fun q e => (h.g.row.lt q e).1
  have hlk : W'.ownsRow B 3 1 l ((X i).length + 40) (intsI (X i ++ List.replicate 40 (100 + (i : Int)))) := h.row.kept hg h.nR.symm.ne
  have hcase : ∀ j, j < i + 1 → j = i ∨ (j < i ∧ j ≠ i) := fun j hj => by omega
  refine ⟨h.g.three.grown hg hB0 hr h.g.rowG (fun j hj => (h.g.rowV j hj).ne), ?_, ?_, ?_, fun j hj => (h.g.rowV j hj).grows hat (h.g.three.own j hj), ?_, ?_, ?_, ?_⟩
  · rw [List.range_succ, List.map_append, List.map_singleton, if_pos rfl]
    rw [show (List.range i).map (fun j => if j = i then l else ls j) = (List.range i).map ls from List.map_congr_left fun j hj => by rw [if_neg]; have := List.mem_range.1 hj; omega]
    exact ho
  · intro j hj
    rcases hcase j hj with rfl | ⟨h1, h2⟩
    · simpa using hlk
    · simp only [if_neg h2]; exact (h.g.each j h1).kept hg (h.g.rowL j h1).ne
  · intro e
    rcases hat with h1 | h1
    · exact h.g.rowG (h1 ▸ e)
    · rw [h1] at e
      have := h.g.three.blk.lt
      simp only [Option.some.injEq] at e
      omega
  · intro j hj
    rcases hcase j hj with rfl | ⟨h1, h2⟩
    · simp only [if_pos]; exact h.nR.symm.grows hat h.row
    · simp only [if_neg h2]; exact (h.g.rowL j h1).grows hat (h.g.each j h1)
  · intro j hj
    rcases hcase j hj with rfl | ⟨h1, h2⟩
    · simp only [if_pos]; exact h.nG
    · simp only [if_neg h2]; exact h.g.eachG j h1
  · intro j hj k hk hne
    rcases hcase j hj with rfl | ⟨h1, h2⟩
    · simp only [if_pos]; exact h.nV k hk hne
    · simp only [if_neg h2]; exact h.g.eachV j h1 k hk hne
  · intro j hj k hk hne
    rcases hcase j hj with rfl | ⟨h1, h2⟩
    · rcases hcase k hk with rfl | ⟨h3, h4⟩
      · exact absurd rfl hne
      · simp only [if_pos, if_neg h4]; exact h.nL k h3
    · rcases hcase k hk with rfl | ⟨h3, h4⟩
      · simp only [if_pos, if_neg h2]; exact (h.nL j h1).symm
      · simp only [if_neg h2, if_neg h4]; exact h.g.eachL j h1 k h3 hne
/-- 'append' whose run is known. -/
theorem wpListIn_append_run {F : Fence} {n : Nat} {P : Program} (w : World) {ops : Array Oper} {rest : List Oper} {o : Oper} {a : Act} {Q : Exit → Act → World → Prop}
    (hg : o.guard = none) (s x : Operand) (t : TypeId) (hop : o.op = Op.call { callee := Callee.builtin Builtin.append, args := #[s, x], argTypes := #[t, t] }) (v u : Value) (hs : a.eval s = v) (hx : a.eval x = u)
    (R : Value → World → Prop) (hrun : ∃ v' w', (Builtin.append_ #[t, t] o.type #[v, u]).run P w = .ok v' w' ∧ R v' w') (hK : ∀ v' w', R v' w' → wpListIn F n P ops Q rest (a.put o.dst v') w') :
    wpListIn F n P ops Q (o :: rest) a w := by
  refine wpListIn_plain hg fun K hK' => ?_
  obtain ⟨v', w', hrun, r⟩ := hrun
  unfold Oper.wpIn
  refine ⟨?_, ?_⟩
  · simp [Oper.about, hop, resolve, Target.leads, Sem.run_pure]
  · rw [Oper.semAt_plain F _ _ (by rw [hop]; intro c hc'; cases hc')]
    simp [execOp, hop, resolve, invoke, builtin, hs, hx, hrun, Result.andThen]
    exact hK' _ _ (hK v' w' r)
theorem info_list : (Tryd.prog.info? 22).map (fun i => (i.zero, i.size, i.bytes)) = some (some (.slice none 0 0), 1, 24) := by kernel_rfl
/-- The walk's own appends. -/
theorem goes_append {B : Nat} {W0 : World} {G : Nat} {vs : Nat → Value} {X : Nat → List Int} {i k : Nat} {vg : Value} {ls : Nat → Value} {l : Value} {W : World} (h : Goes B W0 G vs X i k vg ls l W) (hi : i < 3) (hk : k < 40) (hX : (X i).length ≤ 64) (hB0 : B ≤ W.heap.size) :
    ∃ v' w', (Builtin.append_ #[22, 22] 22 #[l, .slice (some ⟨W.heap.size, 0, none⟩) 1 1]).run Tryd.prog (W.alloc (.cells #[.int .i64 (100 + (i : Int))] 3)) = .ok v' w' ∧ Goes B W0 G vs X i (k + 1) vg ls v' w' := by
  have h' := h.alloc hB0 (.cells #[.int .i64 (100 + (i : Int))] 3)
  obtain ⟨v', w', hr, ho, hg, hold, hat⟩ := append_both _ B l _ _ h'.row ⟨W.heap.size, 0, none⟩ 1 (100 + (i : Int)) ((Blk.new W #[.int .i64 (100 + (i : Int))] 3).cell rfl) rfl (by omega) (by simp; omega) 22
  exact ⟨v', w', hr, h'.step hi (by simp; omega) ho hg hold hat⟩
theorem goes_push {B : Nat} {W0 : World} {G : Nat} {vs : Nat → Value} {X : Nat → List Int} {i : Nat} {vg : Value} {ls : Nat → Value} {l : Value} {W : World} (h : Goes B W0 G vs X i 40 vg ls l W) (hi : i < 3) (hB0 : B ≤ W.heap.size) (hl1 : l.oneCell' = true) :
    ∃ v' w', (Builtin.append_ #[57, 57] 57 #[vg, .slice (some ⟨W.heap.size, 0, none⟩) 1 1]).run Tryd.prog (W.alloc (.cells #[l] 22)) = .ok v' w' ∧ Grows B W0 G vs X (i + 1) v' (fun j => if j = i then l else ls j) w' := by
  have h' := h.alloc hB0 (.cells #[l] 22)
  obtain ⟨i0, hi0, hz0, hz1, hz2⟩ := info_parts info_list
  have hnews : ∀ j u, [l][j]? = some u → (W.alloc (.cells #[l] 22)).cell? ((⟨W.heap.size, 0, none⟩ : Addr).add j) = some u := fun j u hu => by
    cases j with
    | zero =>
      have := (Blk.new W #[l] 22).cell (i := 0) (v := l) rfl
      simp only [List.getElem?_cons_zero, Option.some.injEq] at hu
      subst hu; exact this
    | succ j => simp at hu
  obtain ⟨v', w', hr, ho, hg, _, hat⟩ := run_append_own_at (P := Tryd.prog) (W.alloc (.cells #[l] 22)) B 57 57 22 i0 (.slice none 0 0) 1 24 Tryd.underlying57 hi0 hz0 hz1 hz2 rfl (by decide) vg i _ h'.g.row ⟨W.heap.size, 0, none⟩ 1 1 [l] rfl hnews (by simp [hl1]) (by unfold maxLen; omega) (by omega) (by simp; omega)
  exact ⟨v', w', hr, h'.push hi (by simp; omega) ho hg hat⟩
theorem asInts_len (l : List Nat) : (asInts l).length = l.length := by simp [asInts]
theorem nums_le64 (m : Nat) : (asInts (nums m)).length ≤ 64 := by rw [asInts_len]; exact nums_le m
theorem own_ints {W : World} {B : Nat} {v : Value} {l : List Nat} (h : W.ownsRow B 3 1 v l.length (intsV l)) : W.ownsRow B 3 1 v (asInts l).length (intsI (asInts l)) := by
  rw [asInts_len, ← intsV_asInts]; exact h
theorem Three.undrew {W W' : World} {G : Nat} {vs : Nat → Value} {X : Nat → List Int} (h : Three W.drew.heap.size W.drew G vs X W') : Three W.heap.size W G vs X W' :=
  ⟨(below_drawn (Below.refl W.heap.size W) 1).trans h.below, h.blk, h.lo, h.own, h.apart⟩
theorem far_alloc {W : World} {a : Addr} {v : Value} (h : W.cell? a = some v) (o : Obj) : (W.alloc o).cell? a = some v := cell_kept h (World.grownBy_alloc W o none) (fun r e => by cases e)
theorem getD_in {l : List Int} {k : Nat} {x : Int} {q : Nat} (hq : q < l.length) : (l ++ List.replicate k x).getD q 0 = l.getD q 0 := by
  simp [List.getD, List.getElem?_append_left hq]
theorem getD_out {l : List Int} {k : Nat} {x : Int} {q : Nat} (hq : l.length ≤ q) (hq2 : q < l.length + k) : (l ++ List.replicate k x).getD q 0 = x := by
  rw [List.getD, List.getElem?_append_right hq, List.getElem?_replicate, if_pos (by omega)]; rfl
theorem own_cell {W : World} {B g c n : Nat} {l : List Int} (h : W.ownsRow B 3 1 (.slice (some ⟨g, 0, none⟩) n c) n (intsI l)) (q : Nat) (hq : q < n) : W.cell? ⟨g, q, none⟩ = some (.int .i64 (l.getD q 0)) := by
  have hl : l.length = n := by have := h.1; simpa [intsI] using this
  rw [h.cellAt q (by omega)]
  have : q < l.length := by omega
  simp [intsI, List.getD, this]
/-- The list of lists, when it is whole. -/
theorem Grows.lists {B : Nat} {W0 : World} {G : Nat} {vs : Nat → Value} {X : Nat → List Int} {vg : Value} {ls : Nat → Value} {W : World} (h : Grows B W0 G vs X 3 vg ls W) : ∃ gg cg, vg = .slice (some ⟨gg, 0, none⟩) 3 cg ∧ ∀ i, i < 3 → W.cell? ⟨gg, i, none⟩ = some (ls i) := by
  obtain ⟨gg, cg, rfl⟩ : ∃ gg cg, vg = .slice (some ⟨gg, 0, none⟩) 3 cg := by
    rcases h.row.2 with ⟨_, h0⟩ | ⟨g, cap, cur, hv, _⟩
    · omega
    · exact ⟨g, cap, hv⟩
  refine ⟨gg, cg, rfl, fun i hi => ?_⟩
  rw [h.row.cellAt i (by omega)]
  rw [List.getElem?_map, List.getElem?_range hi]; rfl
theorem Grows.list {B : Nat} {W0 : World} {G : Nat} {vs : Nat → Value} {X : Nat → List Int} {vg : Value} {ls : Nat → Value} {W : World} (h : Grows B W0 G vs X 3 vg ls W) (i : Nat) (hi : i < 3) : ∃ gl cl, ls i = .slice (some ⟨gl, 0, none⟩) ((X i).length + 40) cl ∧ ∀ q, q < (X i).length + 40 → W.cell? ⟨gl, q, none⟩ = some (.int .i64 ((X i ++ List.replicate 40 (100 + (i : Int))).getD q 0)) := by
  have ho := h.each i hi
  obtain ⟨gl, cl, hv, _⟩ := own_form ho
  refine ⟨gl, cl, hv, fun q hq => ?_⟩
  rw [hv] at ho
  exact own_cell ho q hq
theorem all_end {fn : Func} {tmps : Array Value} {W w : World} {n0 D p : Nat} (hfn : fn.results = #[.cell p 4]) (hp : tmps.getD p undef = .pointer (some ⟨n0, 0, none⟩)) (hK : W.heap[D]? = some (.deferred (some []))) (hb : Boxed W n0 4 (.bool true)) (hB : Below n0 w W) (hD : n0 ≤ D) :
    ∃ v, (results fn tmps).run Tryd.prog (W.putObj D (.deferred none)) = .ok v (W.putObj D (.deferred none)) ∧ Ending.returned v = Ending.returned (.bool true) ∧ Below n0 w (W.putObj D (.deferred none)) := by
  have hc := cell_kept hb.cell (grownBy_putObj' W D (.deferred none)) (fun r e => by cases e; exact ⟨_, hK, rfl⟩)
  refine ⟨.bool true, ?_, rfl, hB.trans ⟨rfl, rfl, rfl, by simp, fun k hk => World.putObj_heap_other (by omega)⟩⟩
  simp only [Array.getD_eq_getD_getElem?] at hp
  simp [results, hfn, go_sem, hc, hp]
end Go.Proofs.YtmmhcfbnelggfaaDoor
