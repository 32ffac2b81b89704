/- The iterator Subsets. -/
import Derived.Test.YtmmhcfbnelggfaaDoorSub
import Derived.RangeFuncNested
import Derived.RangeFuncBound
import Derived.RangeFuncCalls
import Derived.RangeFuncLeaves
import Derived.Shelf.Abstract
import Derived.Shelf.RegionOpen
import Derived.WalkKit
import Derived.OwnWalkIn
import Derived.TacticsInMore
import Derived.LoopNIn
import Derived.LoopIn
namespace Go.Proofs.YtmmhcfbnelggfaaDoor
open Go.RowKit Go.Shelf
attribute [local go_sem] Oper.semAt_some

def subsTo (m k : Nat) : List Nat := (List.range k).map (subW m)
theorem subsTo_succ (m k : Nat) : subsTo m (k + 1) = subsTo m k ++ [subW m k] := by simp [subsTo, List.range_succ]
theorem subsTo_length (m k : Nat) : (subsTo m k).length = k := by simp [subsTo]
theorem subsTo_prefix (m : Nat) {k n : Nat} (h : k ≤ n) : subsTo m k <+: subsTo m n := by
  obtain ⟨d, rfl⟩ := Nat.le.dest h
  induction d with
  | zero => exact List.prefix_refl _
  | succ d ih => exact (ih (by omega)).trans (by rw [← Nat.add_assoc, subsTo_succ]; exact List.prefix_append _ _)

set_option maxRecDepth 100000 in
set_option maxHeartbeats 1000000 in
theorem subs1_in (F : Fence) (n : Nat) (hf : F.fn 42) (hro : F.round = none) (hn : 1 ≤ n) (l Bn n₀ m : Nat) (hm : m < 18446744073709551616) (J Jx : List Nat → World → Prop)
    (hY : ∀ pre (x : Nat) W, J pre W → pre.length < 2 ^ cnt m → YieldAt F (n - 1) Tryd.prog l #[.int .u64 x] W fun e W' =>
      (e = .returned (.bool true) ∧ J (pre ++ [x]) W' ∧ Below n₀ W W') ∨ (e = .returned (.bool false) ∧ Jx (pre ++ [x]) W'))
    (W : World) (hBn : W.cell? ⟨Bn, 0, none⟩ = some (.int .u64 m)) (hB : Bn < n₀) (h0 : J [] W) :
    CallsIn F n Tryd.prog 42 #[.func (.yield l) #[] #[], .pointer (some ⟨Bn, 0, none⟩)] W fun e W' => (∃ v, e = .returned v) ∧
      ((∃ ys, ys = subsTo m (2 ^ cnt m) ∧ J ys W') ∨ (∃ pre, pre <+: subsTo m (2 ^ cnt m) ∧ Jx pre W')) := by
  have hz := subW_zero m
  replace hz := Lib.hid hz
  refine callsIn_of_wp Tryd.func42 rfl hf ?_ hro
  simp only [Tryd.ntmps42, List.size_toArray, List.length_cons, List.length_nil, Nat.reduceAdd, Nat.reduceSub, Array.replicate_succ, Array.replicate_zero, List.push_toArray, List.append_toArray, List.nil_append, List.cons_append]
  gi_wp2
  gi_loopw [3] (fun s wr => ∃ k : Nat, s = .int .u64 (subW m k : Nat) ∧ k < 2 ^ cnt m ∧ J (subsTo m k) wr ∧ wr.cell? ⟨Bn, 0, none⟩ = some (.int .u64 m))
    (fun s _ => m + 1 - (intOf s).toNat)
  case atStart =>
    exact ⟨0, by rw [hz.out]; rfl, Nat.two_pow_pos _, h0, hBn⟩
  case round =>
    obtain ⟨k, rfl, hk, hJ, hc⟩ := hrel
    obtain ⟨fn, tmps, assign, body, hy, hR⟩ := hY (subsTo m k) (subW m k) wr hJ (by rw [subsTo_length]; exact hk)
    have hlast := subW_last hm
    have hnext := subW_next hm k
    have hlt := subW_lt m k
    have hne : k + 1 < 2 ^ cnt m → subW m k ≠ m := fun h e => by
      have := subW_rise m (show k < 2 ^ cnt m - 1 by omega) (by omega)
      omega
    have hmono : k + 1 < 2 ^ cnt m → subW m k < subW m (k + 1) ∧ subW m k < m := fun h => by
      have h1 := subW_rise m (show k < k + 1 by omega) h
      have h2 := subW_rise m (show k < 2 ^ cnt m - 1 by omega) (by omega)
      omega
    have hs2 := subsTo_succ m k
    have HB := fun W' (hk : Below n₀ wr W') => (hk.cell (p := ⟨Bn, 0, none⟩) hB).trans hc
    by_cases hend : k + 1 = 2 ^ cnt m
    · have hkm : subW m k = m := by rw [show k = 2 ^ cnt m - 1 by omega]; exact hlast
      rw [hkm] at hy hR hs2
      rw [hkm]
      replace hkm := Lib.hid hkm
      replace hlast := Lib.hid hlast
      replace hnext := Lib.hid hnext
      replace hs2 := Lib.hid hs2
      replace hend := Lib.hid hend
      gi_wp2
      refine hR.mono ?_
      rintro e W3 (⟨rfl, hJ3, hk3⟩ | ⟨rfl, hJx3⟩)
      · have hc3 := HB W3 hk3
        gi_wp2
        refine bodyPost_ret (results_none rfl _ _ _) rfl ?_
        exact ⟨⟨_, rfl⟩, .inl ⟨_, by rw [← hend.out]; exact hs2.out.symm, hJ3⟩⟩
      · gi_wp2
        refine bodyPost_ret (results_none rfl _ _ _) rfl ?_
        exact ⟨⟨_, rfl⟩, .inr ⟨_, by rw [← hs2.out]; exact subsTo_prefix m (by omega), hJx3⟩⟩
    · have hk' : k + 1 < 2 ^ cnt m := by omega
      replace hne := hne hk'
      replace hmono := hmono hk'
      obtain ⟨hm1, hm2⟩ := hmono
      generalize hs : subW m k = s at *
      replace hs := Lib.hid hs
      replace hlast := Lib.hid hlast
      replace hnext := Lib.hid hnext
      replace hs2 := Lib.hid hs2
      gi_wp2
      refine hR.mono ?_
      rintro e W3 (⟨rfl, hJ3, hk3⟩ | ⟨rfl, hJx3⟩)
      · have hc3 := HB W3 hk3
        gi_wp2
        have e : bits .and .u64 (IntKind.u64.wrap ((s : Int) - (m : Int))) (m : Int) = ((subW m (k + 1) : Nat) : Int) := by
          rw [wrap_sub_u64_nat s m (18446744073709551616 - m) (by omega), bits_and_u64_nat _ _ (Nat.mod_lt _ (by omega)) hm, hnext.out]
        rw [e]
        exact ⟨⟨k + 1, rfl, hk', by rw [hs2.out]; exact hJ3, hc3⟩, by simp only [intOf, Int.toNat_natCast]; omega⟩
      · gi_wp2
        refine bodyPost_ret (results_none rfl _ _ _) rfl ?_
        exact ⟨⟨_, rfl⟩, .inr ⟨_, by rw [← hs2.out]; exact subsTo_prefix m (by omega), hJx3⟩⟩

set_option maxHeartbeats 1000000 in
theorem subs_in (F : Fence) (n : Nat) (hf : F.fn 36) (hro : F.round = none) (m : Nat) (w : World) :
    CallsIn F n Tryd.prog 36 #[.int .u64 m] w fun e w' => e = .returned (.func (.func 42) #[] #[.pointer (some ⟨w.heap.size, 0, none⟩)]) ∧ w' = w.alloc (.cells #[.int .u64 m] 24) := by
  refine callsIn_of_wp Tryd.func36 rfl hf ?_ hro
  simp only [Tryd.ntmps36, List.size_toArray, List.length_cons, List.length_nil, Nat.reduceAdd, Nat.reduceSub, Array.replicate_succ, Array.replicate_zero, List.push_toArray, List.append_toArray, List.nil_append, List.cons_append]
  gi_wp2
  go_ret
  exact ⟨rfl, rfl⟩

theorem subs_stops (F : Fence) (n : Nat) (hf : F.fn 42) (hro : F.round = none) (hn : 1 ≤ n) (Bn n₀ m : Nat) (hm : m < 18446744073709551616) (w : World) (hBn : Bn < w.heap.size) (hB : Bn < n₀)
    (hc : w.cell? ⟨Bn, 0, none⟩ = some (.int .u64 m)) :
    SeqStopsK F n Tryd.prog 42 #[.pointer (some ⟨Bn, 0, none⟩)] (fun x : Nat => #[Value.int .u64 x]) (Below n₀) (fun ys => ys = subsTo m (2 ^ cnt m)) (fun pre => pre <+: subsTo m (2 ^ cnt m)) (2 ^ cnt m) w := fun l J Jx W hW _ _ hY h0 =>
  subs1_in F n hf hro hn l Bn n₀ m hm J Jx hY W ((hW.cell (p := ⟨Bn, 0, none⟩) hBn).trans hc) hB h0
end Go.Proofs.YtmmhcfbnelggfaaDoor
