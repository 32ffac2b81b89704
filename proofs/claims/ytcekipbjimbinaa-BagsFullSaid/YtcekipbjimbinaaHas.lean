/- A queue's contracts, told by what is in. -/
import Derived.Test.YtcekipbjimbinaaPut
namespace Go.Proofs.Ytcekipbjimbinaa
open Go.RowKit Go.Shelf
variable {P : Pl}

/-- How long a ring may be: it doubles, or has come to the bound. -/
def Ring (L : Nat) (most : Int) : Prop := (∃ k : Nat, L + 2 = 2 ^ (k + 1)) ∨ (L : Int) = most
theorem Ring.more {n m : Nat} {most : Int} (h : Ring n most) (hn : (n : Int) < most) (hm : m = 2 * n + 2 ∨ (m : Int) = most) : Ring m most := by
  rcases hm with rfl | h1
  · rcases h with ⟨k, h2⟩ | h2
    · exact .inl ⟨k + 1, by rw [Nat.pow_succ]; omega⟩
    · omega
  · exact .inr h1
theorem Ring.small {n : Nat} {most : Int} (_h : Ring n most) (_hn : (n : Int) < most) (hs : n ≤ 1000000) : 2 * n + 2 ≤ 8796093022208 := by omega
/-- A queue that holds these, in rising order, under this bound. -/
def Has (P : Pl) (B : Nat) (w : World) (p : Nat) (its : List (Int × Int)) (most last : Int) : Prop :=
  ∃ rv rs fr n, Que P B w p rv rs fr n most last ∧ items rs fr n = its ∧ Ring rs.length most ∧ Rise (idAt its) its.length ∧ ∀ i, i < its.length → idAt its i ≤ last
/-- What a call on a queue leaves: all below its base, and all blocks that are neither a queue nor a ring. -/
structure Kp (B : Nat) (w w' : World) : Prop where
  low : Below B w w'
  rest : ∀ (k : Nat) (cur : Array Value) (t : TypeId), t ≠ 75 → t ≠ 78 → w.heap[k]? = some (Obj.cells cur t (0, 0)) → w'.heap[k]? = w.heap[k]?
theorem Kp.refl (B : Nat) (w : World) : Kp B w w := ⟨Below.refl _ _, fun _ _ _ _ _ _ => rfl⟩
theorem Kp.drewN (B : Nat) (w : World) (q : Nat) : Kp B w (w.drewN q) := ⟨below_drawn (Below.refl _ _) q, fun _ _ _ _ _ _ => rfl⟩
theorem Kp.trans {B : Nat} {a b c : World} (h : Kp B a b) (h' : Kp B b c) : Kp B a c :=
  ⟨h.low.trans h'.low, fun k cur t h1 h2 e => (h'.rest k cur t h1 h2 ((h.rest k cur t h1 h2 e).trans e)).trans (h.rest k cur t h1 h2 e)⟩
theorem Kp.own {B : Nat} {w w' : World} (h : Kp B w w') {base : Nat} {v : Value} {n : Nat} {xs : List Value} (ho : w.ownsRow base 3 1 v n xs) : w'.ownsRow base 3 1 v n xs := by
  refine ⟨ho.1, ?_⟩
  rcases ho.2 with h0 | ⟨g, cap, cur, h1, h2, h3, h4⟩
  · exact .inl h0
  · exact .inr ⟨g, cap, cur, h1, h2, (h.rest g cur _ (by decide) (by decide) h3).trans h3, h4⟩
theorem Kp.blk {B : Nat} {w w' : World} (h : Kp B w w') {b : Nat} {cs : Array Value} {t : TypeId} (h1 : t ≠ 75) (h2 : t ≠ 78) (hb : Blk w b cs t) : Blk w' b cs t := (h.rest b cs t h1 h2 hb).trans hb
theorem Que.only {B : Nat} {w w' : World} {p : Nat} {rv : Value} {rs : List (Int × Int)} {fr n : Nat} {most last : Int} (h : Que P B w p rv rs fr n most last) {S : Nat → Prop} (hS : ∀ k, S k → k = p ∨ rv.ownBlock = some k) (ho : Only S w w') : Kp B w w' := by
  refine ⟨⟨ho.low.1, ho.low.2, ho.low.3, ho.low.4, fun k hk => ?_⟩, fun k cur t ht1 ht2 e => ?_⟩
  · have hp := h.lo
    have hpl := h.blk.lt
    refine ho.same k (by omega) (fun e => ?_)
    rcases hS k e with rfl | e2
    · omega
    · have := h.ringLt k e2; omega
  · refine ho.same k (Array.getElem?_eq_some_iff.1 e).1 (fun e1 => ?_)
    rcases hS k e1 with rfl | e2
    · have := h.blk.eq
      rw [e] at this
      cases this
      exact ht1 rfl
    · rcases h.own.2 with ⟨e3, _⟩ | ⟨g, c, cur', e3, _, hg, _⟩
      · rw [e3] at e2; simp [Value.ownBlock] at e2
      · rw [e3] at e2
        have e4 : g = k := by simpa [Value.ownBlock] using e2
        rw [e4, e] at hg
        cases hg
        exact ht2 rfl
/-- A queue, when the row of another has grown. -/
theorem Has.grown {B : Nat} {w w' : World} {p : Nat} {its : List (Int × Int)} {most last : Int} (h : Has P B w p its most last) {row : Option Nat} (hg : w.grownBy w' row) (hr : ∀ k, row = some k → ∃ cur, w.heap[k]? = some (Obj.cells cur 3 (0, 0))) : Has P B w' p its most last := by
  obtain ⟨rv, rs, fr, n, hq, h2⟩ := h
  refine ⟨rv, rs, fr, n, ⟨hq.blk.kept hg (fun e => ?_), ⟨hq.own.1, ?_⟩, hq.lo, hq.fits, hq.small, hq.most1⟩, h2⟩
  · obtain ⟨cur, e2⟩ := hr p e.symm
    have := hq.blk.eq
    rw [e2] at this
    simp at this
  · rcases hq.own.2 with h0 | ⟨g, c, cur, e3, h3, hg3, h4⟩
    · exact .inl h0
    · refine .inr ⟨g, c, cur, e3, h3, (hg.block g (Array.getElem?_eq_some_iff.1 hg3).1 (fun e => ?_)).trans hg3, h4⟩
      obtain ⟨cur', e2⟩ := hr g e.symm
      rw [hg3] at e2
      simp at e2
theorem Has.below {B : Nat} {w w' : World} {p : Nat} {its : List (Int × Int)} {most last : Int} (h : Has P B w p its most last) (hB : Below w.heap.size w w') : Has P B w' p its most last := by
  obtain ⟨rv, rs, fr, n, hq, h2⟩ := h
  exact ⟨rv, rs, fr, n, hq.below hB, h2⟩
theorem Has.drewN {B : Nat} {w : World} {p : Nat} {its : List (Int × Int)} {most last : Int} (h : Has P B w p its most last) (q : Nat) : Has P B (w.drewN q) p its most last := by
  obtain ⟨rv, rs, fr, n, hq, h2⟩ := h
  exact ⟨rv, rs, fr, n, hq.drewN q, h2⟩
theorem Has.lt {B : Nat} {w : World} {p : Nat} {its : List (Int × Int)} {most last : Int} (h : Has P B w p its most last) : B ≤ p ∧ p < w.heap.size := by
  obtain ⟨rv, rs, fr, n, hq, _⟩ := h
  exact ⟨hq.lo, hq.blk.lt⟩
theorem Has.small {B : Nat} {w : World} {p : Nat} {its : List (Int × Int)} {most last : Int} (h : Has P B w p its most last) : its.length ≤ 8796093022208 ∧ (its.length : Int) ≤ most := by
  obtain ⟨rv, rs, fr, n, hq, rfl, _⟩ := h
  rw [items_length]
  refine ⟨?_, hq.most1⟩
  have := hq.small
  rcases hq.fits with ⟨_, h1⟩ | ⟨_, h1, _⟩ <;> omega
/-- Another queue's steps, all above what this one holds, leave it. -/
theorem Has.apart {B C : Nat} {w w' : World} {p : Nat} {its : List (Int × Int)} {most last : Int} (h : Has P B w p its most last) (hC : w.heap.size ≤ C) (hB : Below C w w') : Has P B w' p its most last := h.below (hB.mono hC)

theorem idAt_snoc (a : List (Int × Int)) (x : Int × Int) (i : Nat) (hi : i < (a ++ [x]).length) : idAt (a ++ [x]) i = if i < a.length then idAt a i else x.1 := by
  by_cases e : i < a.length
  · rw [if_pos e]; simp [idAt, List.getD, List.getElem?_append_left e]
  · rw [if_neg e]
    rw [List.length_append, List.length_singleton] at hi
    have : i = a.length := by omega
    subst this
    simp [idAt, List.getD]
theorem rise_snoc {a : List (Int × Int)} {last id x : Int} (hr : Rise (idAt a) a.length) (hl : ∀ i, i < a.length → idAt a i ≤ last) (hid : last < id) :
    Rise (idAt (a ++ [(id, x)])) (a ++ [(id, x)]).length ∧ ∀ i, i < (a ++ [(id, x)]).length → idAt (a ++ [(id, x)]) i ≤ id := by
  refine ⟨fun i j hij hj => ?_, fun i hi => ?_⟩
  · rw [idAt_snoc _ _ _ hj, idAt_snoc _ _ _ (by omega)]
    rw [List.length_append, List.length_singleton] at hj
    rw [if_pos (by omega)]
    split
    · next e => exact hr i j hij e
    · have := hl i (by omega); simp only; omega
  · rw [idAt_snoc _ _ _ hi]
    split
    · next e => have := hl i e; omega
    · exact Int.le_refl _
theorem idAt_erase (a : List (Int × Int)) (j i : Nat) : idAt (a.eraseIdx j) i = if i < j then idAt a i else idAt a (i + 1) := by
  simp only [idAt, List.getD, List.getElem?_eraseIdx]
  split <;> rfl
theorem rise_erase {a : List (Int × Int)} {last : Int} (hr : Rise (idAt a) a.length) (hl : ∀ i, i < a.length → idAt a i ≤ last) (j : Nat) (hj : j < a.length) :
    Rise (idAt (a.eraseIdx j)) (a.eraseIdx j).length ∧ ∀ i, i < (a.eraseIdx j).length → idAt (a.eraseIdx j) i ≤ last := by
  have hlen : (a.eraseIdx j).length = a.length - 1 := by rw [List.length_eraseIdx, if_pos hj]
  rw [hlen]
  refine ⟨fun i k hik hk => ?_, fun i hi => ?_⟩
  · rw [idAt_erase, idAt_erase]
    split <;> split
    · exact hr _ _ hik (by omega)
    · exact hr _ _ (by omega) (by omega)
    · omega
    · exact hr _ _ (by omega) (by omega)
  · rw [idAt_erase]
    split
    · exact hl _ (by omega)
    · exact hl _ (by omega)
theorem has_new (most : Int) (hm : 1 ≤ most) (w : World) :
    Calls Try.prog 13 #[.int .i64 most] w fun e w' => ∃ p, e = .returned (.tuple #[.pointer (some ⟨p, 0, none⟩), .int .i64 0]) ∧ Has P w.heap.size w' p [] most (-1) ∧ Below w.heap.size w w' := by
  refine (new_any (P := P) most hm w).mono ?_
  rintro e w' ⟨p, rfl, hq, hB⟩
  exact ⟨p, rfl, ⟨_, _, _, _, hq, rfl, .inl ⟨0, rfl⟩, fun i j _ h => absurd h (by simp), fun i h => absurd h (by simp)⟩, hB⟩
section
variable {B : Nat} {w : World} {p : Nat} {its : List (Int × Int)} {most last : Int} (h : Has P B w p its most last)
include h
theorem has_len : Calls Try.prog 18 #[.pointer (some ⟨p, 0, none⟩)] w fun e w' => e = .returned (.int .i64 its.length) ∧ w' = w := by
  obtain ⟨rv, rs, fr, n, hq, rfl, _⟩ := h
  rw [items_length]
  exact len_any p n w hq.cells.2.2.1
theorem has_at (i : Nat) (hi : i < its.length) : Calls Try.prog 25 #[.pointer (some ⟨p, 0, none⟩), .int .i64 i] w fun e w' => e = .returned (.tuple #[.int .i64 (its.getD i (0, 0)).1, .slice (P.A (its.getD i (0, 0)).2) (P.L (its.getD i (0, 0)).2) (P.C (its.getD i (0, 0)).2), .bool true]) ∧ ∃ q, w' = w.drewN q := by
  obtain ⟨rv, rs, fr, n, hq, rfl, _⟩ := h
  exact qAt_any hq i (by rw [items_length] at hi; exact hi)
theorem has_find (x : Int) : Calls Try.prog 32 #[.pointer (some ⟨p, 0, none⟩), .int .i64 x] w fun e w' => ((∃ k, k < its.length ∧ idAt its k = x ∧ e = .returned (.tuple #[.int .i64 (k : Nat), .bool true])) ∨ ((∀ k, k < its.length → idAt its k ≠ x) ∧ e = .returned (.tuple #[.int .i64 0, .bool false]))) ∧ ∃ q, w' = w.drewN q := by
  obtain ⟨rv, rs, fr, n, hq, rfl, _, hs, _⟩ := h
  rw [items_length] at hs ⊢
  exact find_any hq hs x
end
section
variable {B : Nat} {w : World} {p : Nat} {its : List (Int × Int)} {most last : Int} (h : Has P B w p its most last)
include h
theorem has_put (id x : Int) (hsm : its.length ≤ 1000000) : Calls Try.prog 15 #[.pointer (some ⟨p, 0, none⟩), .int .i64 id, .slice (P.A x) (P.L x) (P.C x)] w fun e w' =>
    ((e = .returned (.int .i64 0) ∧ last < id ∧ (its.length : Int) < most ∧ Has P B w' p (its ++ [(id, x)]) most id) ∨ (id ≤ last ∧ e = .returned (.int .i64 2) ∧ Has P B w' p its most last) ∨ (last < id ∧ (its.length : Int) = most ∧ e = .returned (.int .i64 120) ∧ Has P B w' p its most last)) ∧ Kp B w w' := by
  obtain ⟨rv, rs, fr, n, hq, rfl, hg, hs, hl⟩ := h
  have hn : (items rs fr n).length = n := items_length _ _ _
  rw [hn] at hsm
  by_cases h1 : id ≤ last
  · refine (put_low hq id x h1).mono ?_
    rintro e w' ⟨rfl, rfl⟩
    exact ⟨.inr (.inl ⟨h1, rfl, _, _, _, _, hq, rfl, hg, hs, hl⟩), Kp.refl _ _⟩
  · have h1' : last < id := by omega
    by_cases h2 : (n : Int) = most
    · subst h2
      refine (put_full hq id x h1').mono ?_
      rintro e w' ⟨rfl, q, rfl⟩
      exact ⟨.inr (.inr ⟨h1', by rw [hn], rfl, _, _, _, _, hq.drewN q, rfl, hg, hs, hl⟩), Kp.drewN _ _ _⟩
    · have h3 : (n : Int) < most := by have := hq.most1; omega
      have hR := rise_snoc (x := x) hs hl h1'
      by_cases h4 : n < rs.length
      · refine (put_room hq id x h1' h4 h3).mono ?_
        rintro e w' ⟨rfl, rs', hq', hi, hle, ho⟩
        refine ⟨.inl ⟨rfl, h1', by rw [hn]; exact h3, _, _, _, _, hq', hi, by rw [hle]; exact hg, hR⟩, hq.only (fun k e => e) ho⟩
      · have h5 : n = rs.length := by
          rcases hq.fits with ⟨_, h6⟩ | ⟨_, h6, h7⟩
          · omega
          · rw [h6, h7]; rfl
        refine (put_grow hq id x h1' h5 h3 ((h5 ▸ hg : Ring n most).small h3 hsm)).mono ?_
        rintro e w' ⟨rfl, rv', rs', hq', hi, hle, _, ho⟩
        refine ⟨.inl ⟨rfl, h1', by rw [hn]; exact h3, _, _, _, _, hq', hi, (h5 ▸ hg : Ring n most).more h3 hle.1, hR⟩, hq.only (fun k e => .inl e) ho⟩
theorem has_take (j : Nat) (hj : j < its.length) : Calls Try.prog 23 #[.pointer (some ⟨p, 0, none⟩), .int .i64 (idAt its j)] w fun e w' =>
    e = .returned (.tuple #[.slice (P.A (its.getD j (0, 0)).2) (P.L (its.getD j (0, 0)).2) (P.C (its.getD j (0, 0)).2), .int .i64 0]) ∧ Has P B w' p (its.eraseIdx j) most last ∧ Kp B w w' := by
  obtain ⟨rv, rs, fr, n, hq, rfl, hg, hs, hl⟩ := h
  have hR := rise_erase hs hl j hj
  rw [items_length] at hj hs
  refine (take_any hq hs j hj).mono ?_
  rintro e w' ⟨rfl, rs', fr', hq', hi, hle, ho⟩
  exact ⟨rfl, ⟨_, _, _, _, hq', hi, by rw [hle]; exact hg, hR⟩, hq.only (fun k e => e) ho⟩
theorem has_take_none (x : Int) (hx : ∀ k, k < its.length → idAt its k ≠ x) : Calls Try.prog 23 #[.pointer (some ⟨p, 0, none⟩), .int .i64 x] w fun e w' =>
    e = .returned (.tuple #[.slice none 0 0, .int .i64 121]) ∧ ∃ q, w' = w.drewN q := by
  obtain ⟨rv, rs, fr, n, hq, rfl, hg, hs, hl⟩ := h
  rw [items_length] at hx hs
  exact take_none hq hs x hx
end
end Go.Proofs.Ytcekipbjimbinaa
