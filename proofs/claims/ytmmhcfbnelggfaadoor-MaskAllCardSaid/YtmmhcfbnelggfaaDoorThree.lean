/- Three lists of the call's own, each in a block of its own; stores and appends on them. -/
import Derived.Test.YtmmhcfbnelggfaaDoorLawLists
import Derived.Maps.AppendAt
import Derived.Deep.DeepAppendRoom
namespace Go.Proofs.YtmmhcfbnelggfaaDoor
open Go.RowKit Go.Shelf

theorem own_below {w w' : World} {base : Nat} {e : TypeId} {v : Value} {n : Nat} {xs : List Value} (h : w.ownsRow base e 1 v n xs) (hB : Below w.heap.size w w') : w'.ownsRow base e 1 v n xs := by
  refine ⟨h.1, ?_⟩
  rcases h.2 with h0 | ⟨g, cap, cur, h1, h2, h3, h4⟩
  · exact .inl h0
  · exact .inr ⟨g, cap, cur, h1, h2, (hB.block g (Array.getElem?_eq_some_iff.1 h3).1).trans h3, h4⟩
theorem own_base {w : World} {base base' : Nat} {e : TypeId} {v : Value} {n : Nat} {xs : List Value} (h : w.ownsRow base e 1 v n xs) (hb : base' ≤ base) : w.ownsRow base' e 1 v n xs := by
  refine ⟨h.1, ?_⟩
  rcases h.2 with h0 | ⟨g, cap, cur, h1, h2, h3⟩
  · exact .inl h0
  · exact .inr ⟨g, cap, cur, h1, by omega, h3⟩
/-- Two slices have no block in common. -/
def Apart (u v : Value) : Prop := ∀ k, u.ownBlock = some k → v.ownBlock ≠ some k
theorem Apart.symm {u v : Value} (h : Apart u v) : Apart v u := fun k h1 h2 => h k h2 h1
/-- The slices' block and the lists. -/
structure Three (B : Nat) (W0 : World) (G : Nat) (vs : Nat → Value) (X : Nat → List Int) (W : World) : Prop where
  below : Below B W0 W
  blk : Blk W G #[vs 0, vs 1, vs 2] 22
  lo : B ≤ G
  own : ∀ i, i < 3 → W.ownsRow B 3 1 (vs i) (X i).length (intsI (X i))
  apart : ∀ i j, i < 3 → j < 3 → i ≠ j → Apart (vs i) (vs j)
theorem Three.at {B : Nat} {W0 : World} {G : Nat} {vs : Nat → Value} {X : Nat → List Int} {W : World} (h : Three B W0 G vs X W) (i : Nat) (hi : i < 3) : W.cell? ⟨G, i, none⟩ = some (vs i) := by
  refine h.blk.cell ?_
  match i, hi with
  | 0, _ => rfl
  | 1, _ => rfl
  | 2, _ => rfl
theorem Three.ints {B : Nat} {W0 : World} {G : Nat} {vs : Nat → Value} {X : Nat → List Int} {W : World} (h : Three B W0 G vs X W) (i : Nat) (hi : i < 3) : Ints W (vs i) (X i) := Ints.of_ownI (h.own i hi)
/-- The block of slices is no list's block. -/
theorem Three.notG {B : Nat} {W0 : World} {G : Nat} {vs : Nat → Value} {X : Nat → List Int} {W : World} (h : Three B W0 G vs X W) (i : Nat) (hi : i < 3) : (vs i).ownBlock ≠ some G := by
  intro e
  rcases (h.own i hi).2 with ⟨h0, _⟩ | ⟨g, cap, cur, h1, _, h3, _⟩
  · rw [h0] at e; cases e
  · rw [h1] at e
    obtain rfl : g = G := by simpa [Value.ownBlock] using e
    have := h.blk.eq
    rw [h3] at this
    simp at this
theorem Three.grown {B : Nat} {W0 : World} {G : Nat} {vs : Nat → Value} {X : Nat → List Int} {W W' : World} {row : Option Nat} (h : Three B W0 G vs X W) (hg : W.grownBy W' row) (hB0 : B ≤ W.heap.size) (hr : ∀ k, row = some k → B ≤ k) (hG : row ≠ some G)
    (hv : ∀ i, i < 3 → (vs i).ownBlock = none ∨ (vs i).ownBlock ≠ row) : Three B W0 G vs X W' :=
  ⟨h.below.grown hg hB0 hr, h.blk.kept hg (fun e => hG e.symm), h.lo, fun i hi => (h.own i hi).kept hg (hv i hi), h.apart⟩
theorem own_set {w : World} {base g k cap : Nat} {n : Nat} {l : List Int} {x : Int} (h : w.ownsRow base 3 1 (.slice (some ⟨g, 0, none⟩) n cap) n (intsI l)) : (w.setCell ⟨g, k, none⟩ (.int .i64 x)).ownsRow base 3 1 (.slice (some ⟨g, 0, none⟩) n cap) n (intsI (l.set k x)) := by
  refine ⟨by have := h.1; simpa [intsI] using this, ?_⟩
  rcases h.2 with ⟨h0, _⟩ | ⟨g', cap', cur, h1, h2, h3, h4, h5, h6, h7⟩
  · cases h0
  · cases h1
    refine .inr ⟨g, cap, cur.setIfInBounds k (.int .i64 x), rfl, h2, heap_setCell_same w g k cur 3 _ h3, h4, h5, by simpa using h6, ?_⟩
    rw [Array.toList_setIfInBounds, List.take_set, h7]
    simp [intsI, List.map_set]
theorem Three.set {B : Nat} {W0 : World} {G : Nat} {vs : Nat → Value} {X X' : Nat → List Int} {W : World} (h : Three B W0 G vs X W) {i k g cap n : Nat} (hi : i < 3) (hv : vs i = .slice (some ⟨g, 0, none⟩) n cap) (x : Int)
    (hXi : X' i = (X i).set k x) (hX : ∀ j, j ≠ i → X' j = X j) : Three B W0 G vs X' (W.setCell ⟨g, k, none⟩ (.int .i64 x)) := by
  have hgB : B ≤ g := by have := (h.own i hi).lt g (by rw [hv]; rfl); exact this.1
  have hgG : g ≠ G := fun e => h.notG i hi (by rw [hv, ← e]; rfl)
  refine ⟨h.below.setCell hgB _, h.blk.other (fun e => hgG e.symm) _, h.lo, fun j hj => ?_, h.apart⟩
  by_cases e : j = i
  · subst e
    have ho := h.own j hi
    have hn : n = (X j).length := by
      rcases ho.2 with ⟨h0, _⟩ | ⟨g', cap', cur, h1, _⟩
      · rw [hv] at h0; cases h0
      · rw [hv] at h1; cases h1; rfl
    rw [hXi, hv, List.length_set, ← hn]
    rw [hv, ← hn] at ho
    exact own_set ho
  · rw [hX j e]
    have ha := h.apart i j hi hj (fun e' => e e'.symm) g (by rw [hv]; rfl)
    exact (h.own j hj).kept (grownBy_setCell_any W ⟨g, k, none⟩ _) (.inr ha)
/-- 'append' onto a row: the new row, the old one, and where the new one lies. -/
theorem append_both (w : World) (base : Nat) (v : Value) (n : Nat) (l : List Int) (hown : w.ownsRow base 3 1 v n (intsI l)) (a : Addr) (c : Nat) (x : Int) (hc : w.cell? a = some (.int .i64 x)) (ha : a.add 0 = a)
    (hb : (n + 1) * 8 ≤ 140737488355328) (hbase : base ≤ w.heap.size) (ty : TypeId) :
    ∃ v' w', (Builtin.append_ #[22, 22] ty #[v, .slice (some a) 1 c]).run Tryd.prog w = .ok v' w' ∧ w'.ownsRow base 3 1 v' (n + 1) (intsI (l ++ [x])) ∧ w.grownBy w' v.ownBlock ∧ w'.ownsRow base 3 1 v n (intsI l) ∧ (v'.ownBlock = v.ownBlock ∨ v'.ownBlock = some w.heap.size) := by
  obtain ⟨i0, hi, hz0, hz1, hz2⟩ := info_parts info_int
  have hnews : ∀ j u, [Value.int .i64 x][j]? = some u → w.cell? (a.add j) = some u := fun j u hu => by
    cases j with
    | zero => rw [ha, hc]; simpa using hu
    | succ j => simp at hu
  obtain ⟨v', w', hr, ho, hg, _, hat⟩ := run_append_own_at (P := Tryd.prog) w base 22 ty 3 i0 (.int .i64 0) 1 8 Tryd.underlying22 hi hz0 hz1 hz2 rfl (by decide) v n (intsI l) hown a 1 c [.int .i64 x] rfl hnews (by simp [Value.oneCell']) (by unfold maxLen; omega) hb hbase
  refine ⟨v', w', hr, by simpa [intsI] using ho, hg, ?_, hat⟩
  rcases hown.2 with ⟨rfl, rfl⟩ | ⟨g, cap, cur, rfl, hbg, hgg, hnc, hcm, hcs, htake⟩
  · have hx : intsI l = [] := List.eq_nil_of_length_eq_zero (by simpa using hown.1)
    rw [hx]
    exact World.ownsRow_nil _ _ _ _
  · by_cases hroom : n + 1 ≤ cap
    · obtain ⟨w'', hr2, ho2, _⟩ := run_append_own_spare (P := Tryd.prog) w base 22 ty 3 i0 1 Tryd.underlying22 hi hz1 g n cap (intsI l) hown a 1 c [.int .i64 x] rfl hnews (by simp [Value.oneCell']) hroom
      rw [hr] at hr2
      injection hr2 with e1 e2
      subst e2
      refine ⟨hown.1, .inr ?_⟩
      rcases ho2.2 with ⟨h0, _⟩ | ⟨g', cap', cur', hv', hb', hg', hn', hm', hs', ht'⟩
      · cases h0
      · cases hv'
        refine ⟨g, cap, cur', rfl, hb', hg', hnc, hm', hs', ?_⟩
        have h3 := congrArg (List.take (n * 1)) ht'
        rw [List.take_take, Nat.min_eq_left (by omega)] at h3
        rw [h3, ← hown.1, List.take_left]
    · have hfar : ∀ u, v'.ownBlock = some u → True := fun _ _ => trivial
      clear hfar
      have hx : ∀ j u, (intsI l)[j]? = some u → w.cell? ((⟨g, 0, none⟩ : Addr).add j) = some u := hown.cells rfl
      have hr2 := run_append_grow (P := Tryd.prog) w 22 ty 3 i0 (.int .i64 0) Tryd.underlying22 hi hz0 ⟨g, 0, none⟩ n cap (intsI l) (by rw [hz1]; exact hown.1) hx a 1 c [.int .i64 x] (by rw [hz1]; rfl) hnews (by omega) (by omega) (by rw [hz2]; exact growslice_fits (by omega) hb)
      rw [hr] at hr2
      injection hr2 with e1 e2
      subst e2
      exact World.ownsRow.alloc (w := w.drew) hown _
/-- A row's beginning, as a row. -/
theorem own_prefix {w : World} {base g n n' c c' : Nat} {l : List Int} (h : w.ownsRow base 3 1 (.slice (some ⟨g, 0, none⟩) n' c') n' (intsI l)) {cur : Array Value} (hg : w.heap[g]? = some (.cells cur 3 (0, 0))) (hc : cur.size = c) (hn : n ≤ n') (hcm : c ≤ maxLen) (hnc : n ≤ c) (hb : base ≤ g) :
    w.ownsRow base 3 1 (.slice (some ⟨g, 0, none⟩) n c) n (intsI (l.take n)) := by
  rcases h.2 with ⟨h0, _⟩ | ⟨g', cap', cur', h1, h2, h3, h4, h5, h6, h7⟩
  · cases h0
  · cases h1
    rw [hg] at h3
    simp only [Option.some.injEq, Obj.cells.injEq, and_true] at h3
    subst h3
    have hl : l.length = n' := by have := h.1; simpa [intsI] using this
    refine ⟨by simp [intsI]; omega, .inr ⟨g, c, cur, rfl, hb, hg, hnc, hcm, by simpa using hc, ?_⟩⟩
    have h8 := congrArg (List.take (n * 1)) h7
    rw [List.take_take, Nat.min_eq_left (by omega)] at h8
    rw [h8]; simp [intsI, List.map_take]
end Go.Proofs.YtmmhcfbnelggfaaDoor
