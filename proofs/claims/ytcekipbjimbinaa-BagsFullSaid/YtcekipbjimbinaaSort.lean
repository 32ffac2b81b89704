/- slices.Values, Collect, Sorted: of a slice of integers with one element. -/
import Derived.Test.YtcekipbjimbinaaTold
import Derived.Maps.AppendAt
namespace Go.Proofs.Ytcekipbjimbinaa
open Go.RowKit Go.Shelf
attribute [local go_sem] Oper.semAt_some

def intsI (l : List Int) : List Value := l.map (Value.int .i64)
theorem info_int : (Try.prog.info? 3).map (fun i => (i.zero, i.size, i.bytes)) = some (some (.int .i64 0), 1, 8) := by kernel_rfl
theorem take_snocI (l : List Int) (k : Nat) (h : k < l.length) : l.take (k + 1) = l.take k ++ [l.getD k 0] := by
  rw [List.take_add_one]; simp [List.getD, h]

set_option maxRecDepth 100000 in
set_option maxHeartbeats 1000000 in
theorem vals1_in (N : Nat) (hN : 1 ≤ N) (l Bn n₀ g c : Nat) (xs : List Int) (hlen : xs.length ≤ 1000000) (J Jx : List Int → World → Prop)
    (hY : ∀ pre (x : Int) W, J pre W → pre.length < xs.length → YieldAt Fence.wide (N - 1) Try.prog l #[.int .i64 x] W fun e W' =>
      (e = .returned (.bool true) ∧ J (pre ++ [x]) W' ∧ Below n₀ W W') ∨ (e = .returned (.bool false) ∧ Jx (pre ++ [x]) W'))
    (W : World) (hBn : W.cell? ⟨Bn, 0, none⟩ = some (.slice (some ⟨g, 0, none⟩) xs.length c)) (hg : g < n₀) (hx : ∀ k, k < xs.length → W.cell? ⟨g, k, none⟩ = some (.int .i64 (xs.getD k 0))) (h0 : J [] W) :
    CallsIn Fence.wide N Try.prog 31 #[.func (.yield l) #[] #[], .pointer (some ⟨Bn, 0, none⟩)] W fun e W' => (∃ v, e = .returned v) ∧
      ((∃ ys, ys = xs ∧ J ys W') ∨ (∃ pre, pre <+: xs ∧ Jx pre W')) := by
  replace hx := Lib.hid hx
  refine callsIn_of_wp Try.func31 rfl trivial ?_ rfl
  simp only [Try.ntmps31, List.size_toArray, List.length_cons, List.length_nil, Nat.reduceAdd, Nat.reduceSub, Array.replicate_succ, Array.replicate_zero, List.push_toArray, List.append_toArray, List.nil_append, List.cons_append]
  gi_wp2_with fail
  gi_loopw [7] (fun s wr => ∃ k : Nat, s = .int .i64 k ∧ k ≤ xs.length ∧ J (xs.take k) wr ∧ Below n₀ W wr) (fun s _ => xs.length - (intOf s).toNat)
  case atStart => exact ⟨0, rfl, by omega, h0, Below.refl _ _⟩
  case round =>
    obtain ⟨k, rfl, hk, hJ, hB⟩ := hrel
    by_cases hlt : k < xs.length
    · have cA : wr.cell? ⟨g, k, none⟩ = some (.int .i64 (xs.getD k 0)) := (hB.cell (p := ⟨g, k, none⟩) hg).trans (hx.out k hlt)
      have hsnoc := (take_snocI xs k hlt).symm
      have hpre : xs.take (k + 1) <+: xs := List.take_prefix _ _
      have hYk := hY (xs.take k) (xs.getD k 0) wr hJ (by rw [List.length_take]; omega)
      rw [hsnoc] at hYk
      obtain ⟨fn, tmps, assign, body, hy, hR⟩ := hYk
      replace hpre := Lib.hid hpre
      have hwk : IntKind.i64.wrap ((k : Int) + 1) = ((k + 1 : Nat) : Int) := by
        rw [IntWalk.i64_in _ (by omega)]; omega
      clear hsnoc
      generalize xs.getD k 0 = x at *
      gi_wp2
      refine hR.mono ?_
      rintro e' W3 (⟨rfl, hJ3, hk3⟩ | ⟨rfl, hJx3⟩)
      · gi_wp2
        exact ⟨⟨k + 1, by go_num, by omega, hJ3, hB.trans hk3⟩, by simp [intOf]; omega⟩
      · gi_wp2
        refine bodyPost_ret (results_none rfl _ _ _) rfl ?_
        exact ⟨⟨_, rfl⟩, .inr ⟨_, hpre.out, hJx3⟩⟩
    · obtain rfl : k = xs.length := by omega
      rw [List.take_length] at hJ
      gi_wp2
      go_end0
      exact ⟨⟨_, rfl⟩, .inl ⟨_, rfl, hJ⟩⟩
theorem vals_in (N : Nat) (a : Option Addr) (n c : Nat) (w : World) :
    CallsIn Fence.wide N Try.prog 20 #[.slice a n c] w fun e w' => e = .returned (.func (.func 31) #[] #[.pointer (some ⟨w.heap.size, 0, none⟩)]) ∧ w' = w.alloc (.cells #[.slice a n c] 61) := by
  refine callsIn_of_wp Try.func20 rfl trivial ?_ rfl
  simp only [Try.ntmps20, List.size_toArray, List.length_cons, List.length_nil, Nat.reduceAdd, Nat.reduceSub, Array.replicate_succ, Array.replicate_zero, List.push_toArray, List.append_toArray, List.nil_append, List.cons_append]
  gi_wp2
  go_ret
  exact ⟨rfl, rfl⟩
theorem vals_stops (N : Nat) (hN : 1 ≤ N) (Bn n₀ g c : Nat) (xs : List Int) (hlen : xs.length ≤ 1000000) (w : World) (hBn : Bn < w.heap.size) (hc : w.cell? ⟨Bn, 0, none⟩ = some (.slice (some ⟨g, 0, none⟩) xs.length c)) (hg : g < n₀) (hn0 : n₀ ≤ w.heap.size) (hx : ∀ k, k < xs.length → w.cell? ⟨g, k, none⟩ = some (.int .i64 (xs.getD k 0))) :
    SeqStopsK Fence.wide N Try.prog 31 #[.pointer (some ⟨Bn, 0, none⟩)] (fun x : Int => #[Value.int .i64 x]) (Below n₀) (fun ys => ys = xs) (fun pre => pre <+: xs) xs.length w := fun l J Jx W hW _ _ hY h0 =>
  vals1_in N hN l Bn n₀ g c xs hlen J Jx hY W ((hW.cell (p := ⟨Bn, 0, none⟩) hBn).trans hc) hg (fun k hk => (hW.cell (p := ⟨g, k, none⟩) (show g < w.heap.size by omega)).trans (hx k hk)) h0
set_option maxRecDepth 100000 in
set_option maxHeartbeats 2000000 in
/-- What a slice of integers holds, appended to the nil slice one by one. -/
theorem aseq_in (N : Nat) (hN : 3 ≤ N) (Bn g c : Nat) (xs : List Int) (hlen : xs.length ≤ 1000000) (w : World) (hBn : Bn < w.heap.size) (hc : w.cell? ⟨Bn, 0, none⟩ = some (.slice (some ⟨g, 0, none⟩) xs.length c)) (hg : g < w.heap.size) (hx : ∀ k, k < xs.length → w.cell? ⟨g, k, none⟩ = some (.int .i64 (xs.getD k 0))) :
    CallsIn Fence.wide N Try.prog 34 #[.slice none 0 0, .func (.func 31) #[] #[.pointer (some ⟨Bn, 0, none⟩)]] w fun e W' => ∃ v, e = .returned v ∧ W'.ownsRow w.heap.size 3 1 v xs.length (intsI xs) ∧ Below w.heap.size w W' := by
  have h1 : 1 ≤ N := by omega
  replace hx := Lib.hid hx
  obtain ⟨i0, hi, hz0, hz1, hz2⟩ := info_parts info_int
  refine callsIn_of_wp_marks Try.func34 rfl trivial ?_ rfl
  simp only [Try.ntmps34, List.size_toArray, List.length_cons, List.length_nil, Nat.reduceAdd, Nat.reduceSub, Array.replicate_succ, Array.replicate_zero, List.push_toArray, List.append_toArray, List.nil_append, List.cons_append]
  gi_wp2_with fail
  have bO := Boxed.new w 61 (.slice none 0 0)
  have hB0 : Below w.heap.size w (w.alloc (.cells #[.slice none 0 0] 61)) := (Below.refl _ w).alloc (Nat.le_refl _) _
  refine wpIn_rangeFunc_ownG rfl h1 (gf := 31) (lb := #[.pointer (some ⟨Bn, 0, none⟩)]) rfl trivial (enters_of Try.func31 (by kernel_rfl) rfl)
    (vals_stops (N - 1) (by omega) Bn w.heap.size g c xs hlen _ (by simp; omega) ((hB0.cell (p := ⟨Bn, 0, none⟩) hBn).trans hc) hg (by simp) (fun k hk => (hB0.cell (p := ⟨g, k, none⟩) hg).trans (hx.out k hk))) belowK_t (belowK_b (by simp)) (Below.refl _ _) (fun _ => rfl)
    (fun pre W => (∃ v, Boxed W w.heap.size 61 v ∧ W.ownsRow w.heap.size 3 1 v pre.length (intsI pre) ∧ (v = .slice none 0 0 ↔ pre = [])) ∧ Below w.heap.size w W)
    (fun _ _ _ => False)
    (OwnFrom.and (Own.from (holdsRow_own w.heap.size w.heap.size 61 3 1 (fun pre : List Int => pre.length) (fun pre => intsI pre) (fun pre v => v = .slice none 0 0 ↔ pre = [])) _) (ownFrom_below (Nat.le_refl _) (by simp)))
    (fun _ _ _ _ _ hs _ _ => hs)
    ⟨⟨_, bO, World.ownsRow_nil _ _ _ _, by simp⟩, hB0⟩
    (fun x => { tmps := #[.slice none 0 0, .func (.func 31) #[] #[.pointer (some ⟨Bn, 0, none⟩)], .pointer (some ⟨w.heap.size, 0, none⟩), undef, .slice none 0 0, .int .i64 x, .func (.func 31) #[] #[.pointer (some ⟨Bn, 0, none⟩)], .int .i64 x, undef, undef, undef, undef, undef], defers := [] }) ?assign ?body ?done ?stop
  case assign =>
    intro l x W K hK
    gi_wp2
    exact hK
  case body =>
    rintro l pre x W ⟨⟨v, hv, hrow, hnil⟩, hB⟩ hlt
    have hc := hv.cell
    replace hnil := Lib.hid hnil
    gi_wp2_with (gi_at_builtin; refine wpListIn_append_own _ rfl _ _ 61 rfl w.heap.size 3 i0 (.int .i64 0) 1 8 Try.underlying61 hi hz0 hz1 hz2 rfl (by decide) _ _ _ rfl (hrow.alloc _) ⟨W.heap.size, 0, none⟩ 1 1 [.int .i64 x] rfl rfl (cell_one_new _ _ _) (by simp [Value.oneCell']) (by unfold maxLen; omega) (by omega) (by have := hB.size; simp; omega) ?_; intro v' w1 hown' hgrow _; obtain ⟨g', cap', rfl⟩ := ownsRow_succ hown'; obtain ⟨hv1, hv2, hr2, hk2, hb2⟩ := hv.appended (by decide) hrow hB.size (Nat.le_refl _) hown' hgrow; have hc1 := hv1.cell; have hf1 := hv1.frozen)
    exact ⟨hk2.from _, hb2, ⟨_, hv2, by simpa [intsI] using hr2, by simp⟩, hB.trans hb2⟩
  case done =>
    rintro D ys W hD rfl ⟨⟨v, hv, hrow, hnil⟩, hB⟩ hK
    have hc := hv.cell
    replace hnil := Lib.hid hnil
    gi_wp2
    refine ⟨by simp, .inl ⟨_, _, rfl, run_takeDeferred hK, ?_⟩⟩
    exact ⟨_, results_tmp rfl _ _ _, v, rfl, ownsRow_putObj hrow _ hK rfl, hB.trans (belowK_b (w := w) (Nat.le_refl _) W D _ _ (by simp at hD; omega) hK rfl rfl)⟩
  case stop =>
    rintro D c pre W _ _ h _
    exact h.elim
end Go.Proofs.Ytcekipbjimbinaa
