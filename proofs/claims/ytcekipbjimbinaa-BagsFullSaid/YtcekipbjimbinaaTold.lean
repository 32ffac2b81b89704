/- The queue's rows, told one by one. -/
import Derived.Test.YtcekipbjimbinaaQue
import Derived.RangeFuncBox
import Derived.RangeFuncNested
import Derived.RangeFuncBound
import Derived.RangeFuncCalls
import Derived.RangeFuncLeaves
import Derived.Shelf.Abstract
import Derived.Shelf.RegionOpen
import Derived.WalkKit
import Derived.OwnWalkIn
import Derived.TacticsInMore
import Derived.LoopNIn
import Derived.LoopIn
namespace Go.Proofs.Ytcekipbjimbinaa
open Go.RowKit Go.Shelf
attribute [local go_sem] Oper.semAt_some
variable {P : Pl}

theorem own_belowE {w w' : World} {base : Nat} {e : TypeId} {sz : Nat} {v : Value} {n : Nat} {xs : List Value} (h : w.ownsRow base e sz v n xs) (hB : Below w.heap.size w w') : w'.ownsRow base e sz v n xs := by
  refine ⟨h.1, ?_⟩
  rcases h.2 with h0 | ⟨g, cap, cur, h1, h2, h3, h4⟩
  · exact .inl h0
  · exact .inr ⟨g, cap, cur, h1, h2, (hB.block g (Array.getElem?_eq_some_iff.1 h3).1).trans h3, h4⟩
theorem Que.below {B : Nat} {w W : World} {p : Nat} {rv : Value} {rs : List (Int × Int)} {fr n : Nat} {most last : Int} (h : Que P B w p rv rs fr n most last) (hB : Below w.heap.size w W) : Que P B W p rv rs fr n most last :=
  ⟨h.blk.below hB h.blk.lt, own_belowE h.own hB, h.lo, h.fits, h.small, h.most1⟩
def rowV (P : Pl) (x : Int × Int) : Value := .agg #[.int .i64 x.1, .slice (P.A x.2) (P.L x.2) (P.C x.2)]
theorem take_succ_items (l : List (Int × Int)) (k : Nat) (h : k < l.length) : l.take (k + 1) = l.take k ++ [l.getD k (0, 0)] := by
  rw [List.take_add_one]; simp [List.getD, h]

/-- What a round keeps: what lay below n₀, and the iterator's own box. -/
def KpQ (n₀ Bn : Nat) (W W' : World) : Prop := Below n₀ W W' ∧ W'.heap[Bn]? = W.heap[Bn]?
theorem KpQ.refl (n₀ Bn : Nat) (W : World) : KpQ n₀ Bn W W := ⟨Below.refl _ _, rfl⟩
theorem KpQ.trans {n₀ Bn : Nat} {A B C : World} (h : KpQ n₀ Bn A B) (h' : KpQ n₀ Bn B C) : KpQ n₀ Bn A C := ⟨h.1.trans h'.1, h'.2.trans h.2⟩
theorem KpQ.drawn {n₀ Bn : Nat} {A B : World} (h : KpQ n₀ Bn A B) (q : Nat) : KpQ n₀ Bn A (B.drewN q) := ⟨below_drawn h.1 q, h.2⟩
theorem cell_heap {W W' : World} {b o : Nat} (h : W'.heap[b]? = W.heap[b]?) : W'.cell? ⟨b, o, none⟩ = W.cell? ⟨b, o, none⟩ := by
  simp [World.cell?, h]
set_option maxRecDepth 100000 in
set_option maxHeartbeats 1000000 in
theorem rows1_in (N : Nat) (hN : 1 ≤ N) (l Bn n₀ p : Nat) (its : List (Int × Int)) (J Jx : List (Int × Int) → World → Prop)
    (hY : ∀ pre (x : Int × Int) W, J pre W → pre.length < its.length → YieldAt Fence.wide (N - 1) Try.prog l #[rowV P x] W fun e W' =>
      (e = .returned (.bool true) ∧ J (pre ++ [x]) W' ∧ KpQ n₀ Bn W W') ∨ (e = .returned (.bool false) ∧ Jx (pre ++ [x]) W'))
    (W : World) (hBn : W.cell? ⟨Bn, 0, none⟩ = some (.pointer (some ⟨p, 0, none⟩)))
    {B : Nat} {rv : Value} {rs : List (Int × Int)} {fr n : Nat} {most last : Int} (hQ : ∀ W', Below n₀ W W' → Que P B W' p rv rs fr n most last) (hits : items rs fr n = its) (hJd : ∀ pre W q, J pre W → J pre (W.drewN q)) (h0 : J [] W) :
    CallsIn Fence.wide N Try.prog 37 #[.func (.yield l) #[] #[], .pointer (some ⟨Bn, 0, none⟩)] W fun e W' => (∃ v, e = .returned v) ∧
      ((∃ ys, ys = its ∧ J ys W') ∨ (∃ pre, pre <+: its ∧ Jx pre W')) := by
  replace hQ := Lib.hid hQ
  have hlen : its.length = n := by rw [← hits, items_length]
  refine callsIn_of_wp Try.func37 rfl trivial ?_ rfl
  simp only [Try.ntmps37, List.size_toArray, List.length_cons, List.length_nil, Nat.reduceAdd, Nat.reduceSub, Array.replicate_succ, Array.replicate_zero, List.push_toArray, List.append_toArray, List.nil_append, List.cons_append]
  gi_wp2_with fail
  refine ⟨trivial, callsIn_wide.2 ((len_any p (n : Int) W (hQ.out W (Below.refl _ _)).cells.2.2.1).mono ?_)⟩
  rintro e w2 ⟨rfl, rfl⟩
  gi_wp2_with fail
  have hsm := (hQ.out w2 (Below.refl _ _)).small
  have hnL : n ≤ rs.length := by
    rcases (hQ.out w2 (Below.refl _ _)).fits with ⟨_, h⟩ | ⟨_, h, _⟩ <;> omega
  gi_loopw [6] (fun s wr => ∃ k : Nat, s = .int .i64 k ∧ k ≤ n ∧ J (its.take k) wr ∧ KpQ n₀ Bn w2 wr) (fun s _ => n - (intOf s).toNat)
  case atStart => exact ⟨0, rfl, by omega, h0, KpQ.refl _ _ _⟩
  case round =>
    obtain ⟨k, rfl, hk, hJ, hB⟩ := hrel
    by_cases hlt : k < n
    · have hQ1 := hQ.out wr hB.1
      obtain ⟨g, c, kk, hv, hf, hi2, hkk, hkl, c1, c2⟩ := hQ1.place k hlt
      rw [hits] at c1 c2
      have hat := Lib.hid (qat_any hQ1 hv hf k hi2 kk hkk)
      have cB : wr.cell? ⟨Bn, 0, none⟩ = some (.pointer (some ⟨p, 0, none⟩)) := (cell_heap hB.2).trans hBn
      have hsnoc : its.take k ++ [its.getD k (0, 0)] = its.take (k + 1) := (take_succ_items its k (by omega)).symm
      have hpre : its.take (k + 1) <+: its := List.take_prefix _ _
      have hYk := fun q => hY (its.take k) (its.getD k (0, 0)) (wr.drewN q) (hJd _ _ q hJ) (by rw [List.length_take]; omega)
      rw [hsnoc] at hYk
      unfold rowV at hYk
      replace hYk := Lib.hid hYk
      replace hpre := Lib.hid hpre
      replace hsnoc := Lib.hid hsnoc
      replace hQ1 := Lib.hid hQ1
      clear hkk
      generalize (its.getD k (0, 0)).1 = va at *
      generalize (its.getD k (0, 0)).2 = vb at *
      gi_wp2_with fail
      refine ⟨trivial, callsIn_wide.2 (hat.out.mono ?_)⟩
      rintro e' W2 ⟨rfl, q, rfl⟩
      obtain ⟨fn, tmps, assign, body, hy, hR⟩ := hYk.out q
      gi_wp2
      refine hR.mono ?_
      rintro e' W3 (⟨rfl, hJ3, hk3⟩ | ⟨rfl, hJx3⟩)
      · gi_wp2
        exact ⟨⟨k + 1, by go_num, by omega, hJ3, (hB.drawn q).trans hk3⟩, by simp [intOf]; omega⟩
      · gi_wp2
        refine bodyPost_ret (results_none rfl _ _ _) rfl ?_
        exact ⟨⟨_, rfl⟩, .inr ⟨_, hpre.out, hJx3⟩⟩
    · obtain rfl : k = n := by omega
      have hall : its.take k = its := List.take_of_length_le (by omega)
      rw [hall] at hJ
      gi_wp2
      go_end0
      exact ⟨⟨_, rfl⟩, .inl ⟨_, rfl, hJ⟩⟩
theorem grownBy_drewN (w : World) (q : Nat) : w.grownBy (w.drewN q) none := ⟨rfl, rfl, rfl, Nat.le_refl _, fun _ _ _ => rfl⟩
theorem Que.belowN {B n₀ : Nat} {w W : World} {p : Nat} {rv : Value} {rs : List (Int × Int)} {fr n : Nat} {most last : Int} (h : Que P B w p rv rs fr n most last) (hB : Below n₀ w W) (hp : p < n₀) (hr : ∀ k, rv.ownBlock = some k → k < n₀) : Que P B W p rv rs fr n most last := by
  refine ⟨h.blk.below hB hp, ⟨h.own.1, ?_⟩, h.lo, h.fits, h.small, h.most1⟩
  rcases h.own.2 with h0 | ⟨g, cap, cur, h1, h2, h3, h4⟩
  · exact .inl h0
  · exact .inr ⟨g, cap, cur, h1, h2, (hB.block g (hr g (by rw [h1]; rfl))).trans h3, h4⟩
theorem Que.ringLt {B : Nat} {w : World} {p : Nat} {rv : Value} {rs : List (Int × Int)} {fr n : Nat} {most last : Int} (h : Que P B w p rv rs fr n most last) : ∀ k, rv.ownBlock = some k → B ≤ k ∧ k < w.heap.size := h.own.lt
theorem rows_in (N p : Nat) (w : World) :
    CallsIn Fence.wide N Try.prog 33 #[.pointer (some ⟨p, 0, none⟩)] w fun e w' => e = .returned (.func (.func 37) #[] #[.pointer (some ⟨w.heap.size, 0, none⟩)]) ∧ w' = w.alloc (.cells #[.pointer (some ⟨p, 0, none⟩)] 53) := by
  refine callsIn_of_wp Try.func33 rfl trivial ?_ rfl
  simp only [Try.ntmps33, List.size_toArray, List.length_cons, List.length_nil, Nat.reduceAdd, Nat.reduceSub, Array.replicate_succ, Array.replicate_zero, List.push_toArray, List.append_toArray, List.nil_append, List.cons_append]
  gi_wp2
  go_ret
  exact ⟨rfl, rfl⟩
theorem rows_stops (N : Nat) (hN : 1 ≤ N) (Bn n₀ p : Nat) (its : List (Int × Int)) (w : World) (hBn : Bn < w.heap.size) (hn0 : n₀ ≤ w.heap.size) (hc : w.cell? ⟨Bn, 0, none⟩ = some (.pointer (some ⟨p, 0, none⟩)))
    {B : Nat} {rv : Value} {rs : List (Int × Int)} {fr n : Nat} {most last : Int} (h : Que P B w p rv rs fr n most last) (hp : p < n₀) (hr : ∀ k, rv.ownBlock = some k → k < n₀) (hits : items rs fr n = its) :
    SeqStopsK Fence.wide N Try.prog 37 #[.pointer (some ⟨Bn, 0, none⟩)] (fun x : Int × Int => #[rowV P x]) (KpQ n₀ Bn) (fun ys => ys = its) (fun pre => pre <+: its) its.length w := fun l J Jx W hW hJ _ hY h0 =>
  rows1_in N hN l Bn n₀ p its J Jx hY W ((hW.cell (p := ⟨Bn, 0, none⟩) hBn).trans hc) (fun W' hk => h.belowN ((hW.mono hn0).trans hk) hp hr) hits
    (fun pre W q hj => hJ pre W (W.drewN q) none hj (grownBy_drewN W q) (fun r e => by cases e)) h0
end Go.Proofs.Ytcekipbjimbinaa
