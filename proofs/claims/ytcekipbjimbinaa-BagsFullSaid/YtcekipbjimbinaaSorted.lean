/- slices.Sorted of one integer. -/
import Derived.Test.YtcekipbjimbinaaSort
namespace Go.Proofs.Ytcekipbjimbinaa
open Go.RowKit Go.Shelf
attribute [local go_sem] Oper.semAt_some

theorem insertion_one (g c : Nat) (w : World) :
    Calls Try.prog 38 #[.slice (some ⟨g, 0, none⟩) 1 c, .int .i64 0, .int .i64 1] w fun e w' => (∃ v, e = .returned v) ∧ w' = w := by
  go_enter Try.func38, Try.ntmps38
  go_wp2_with fail
  go_loopw [6] (fun s wr => s = .int .i64 1 ∧ wr = w) (fun _ _ => 0)
  case atStart => exact ⟨rfl, rfl⟩
  case round =>
    obtain ⟨rfl, rfl⟩ := hrel
    go_wp2_with fail
    go_end0
    exact ⟨⟨_, rfl⟩, rfl⟩
theorem pdq_one (g c : Nat) (lim : Int) (w : World) :
    Calls Try.prog 35 #[.slice (some ⟨g, 0, none⟩) 1 c, .int .i64 0, .int .i64 1, .int .i64 lim] w fun e w' => (∃ v, e = .returned v) ∧ w' = w := by
  have hI := Lib.hid (insertion_one g c w)
  go_enter Try.func35, Try.ntmps35
  go_wp2_with fail
  go_loopw [1, 2] (fun s t wr => s = .int .i64 0 ∧ t = .int .i64 1 ∧ wr = w) (fun _ _ _ => 0)
  case atStart => exact ⟨rfl, rfl, rfl⟩
  case round =>
    obtain ⟨rfl, rfl, rfl⟩ := hrel
    go_wp2_with fail
    refine hI.out.mono ?_
    rintro e w' ⟨⟨v, rfl⟩, rfl⟩
    go_wp2_with fail
    refine bodyPost_ret (results_none rfl _ _ _) rfl ?_
    exact ⟨⟨_, rfl⟩, rfl⟩
set_option maxRecDepth 100000 in
theorem len64_one (w : World) : Calls Try.prog 48 #[.int .u64 1] w fun e w' => e = .returned (.int .i64 1) ∧ w' = w := by
  go_enter Try.func48, Try.ntmps48
  go_wp2_with fail
  go_ret
  exact ⟨by kernel_rfl, rfl⟩
set_option maxRecDepth 100000 in
theorem len_one (w : World) : Calls Try.prog 36 #[.int .u64 1] w fun e w' => e = .returned (.int .i64 1) ∧ w' = w := by
  go_enter Try.func36, Try.ntmps36
  go_wp2_with fail
  refine (len64_one _).mono ?_
  rintro e w' ⟨rfl, rfl⟩
  go_wp2_with fail
  go_ret
  exact ⟨rfl, rfl⟩
theorem sort_one (g c : Nat) (w : World) :
    Calls Try.prog 30 #[.slice (some ⟨g, 0, none⟩) 1 c] w fun e w' => (∃ v, e = .returned v) ∧ w' = w := by
  have hL := Lib.hid (len_one w)
  have hP := Lib.hid (pdq_one g c 1 w)
  go_enter Try.func30, Try.ntmps30
  go_wp2_with fail
  refine hL.out.mono ?_
  rintro e w' ⟨rfl, rfl⟩
  go_wp2_with fail
  refine hP.out.mono ?_
  rintro e w' ⟨⟨v, rfl⟩, rfl⟩
  go_wp2_with fail
  go_end0
  exact ⟨⟨_, rfl⟩, rfl⟩
/-- Sorted, of the values of a slice of one integer. -/
theorem sorted_one (Bn g c : Nat) (x : Int) (w : World) (hBn : Bn < w.heap.size) (hc : w.cell? ⟨Bn, 0, none⟩ = some (.slice (some ⟨g, 0, none⟩) 1 c)) (hg : g < w.heap.size) (hx : w.cell? ⟨g, 0, none⟩ = some (.int .i64 x)) :
    Calls Try.prog 19 #[.func (.func 31) #[] #[.pointer (some ⟨Bn, 0, none⟩)]] w fun e w' => ∃ v, e = .returned v ∧ w'.ownsRow w.heap.size 3 1 v 1 [.int .i64 x] ∧ Below w.heap.size w w' := by
  have hC : Calls Try.prog 29 #[.func (.func 31) #[] #[.pointer (some ⟨Bn, 0, none⟩)]] w fun e w' => ∃ v, e = .returned v ∧ w'.ownsRow w.heap.size 3 1 v 1 [.int .i64 x] ∧ Below w.heap.size w w' := by
    have hA := Lib.hid (callsIn_wide.1 (aseq_in 9 (by decide) Bn g c [x] (by simp) w hBn hc hg (fun k hk => by
      obtain rfl : k = 0 := by simpa using hk
      exact hx)))
    go_enter Try.func29, Try.ntmps29
    go_wp2_with fail
    refine hA.out.mono ?_
    rintro e w' ⟨v, rfl, ho, hB⟩
    go_wp2_with fail
    go_ret
    exact ⟨_, rfl, ho, hB⟩
  replace hC := Lib.hid hC
  go_enter Try.func19, Try.ntmps19
  go_wp2_with fail
  refine hC.out.mono ?_
  rintro e w' ⟨v, rfl, ho, hB⟩
  obtain ⟨g2, c2, rfl⟩ : ∃ g2 c2, v = .slice (some ⟨g2, 0, none⟩) 1 c2 := by
    rcases ho.2 with ⟨_, h0⟩ | ⟨g2, c2, cur, e, _⟩
    · exact absurd h0 (by decide)
    · exact ⟨g2, c2, e⟩
  have hS := Lib.hid (sort_one g2 c2 w')
  go_wp2_with fail
  refine hS.out.mono ?_
  rintro e w2 ⟨⟨v, rfl⟩, rfl⟩
  go_wp2_with fail
  go_ret
  exact ⟨_, rfl, ho, hB⟩
theorem compact_one (g c : Nat) (w : World) :
    Calls Try.prog 21 #[.slice (some ⟨g, 0, none⟩) 1 c] w fun e w' => e = .returned (.slice (some ⟨g, 0, none⟩) 1 c) ∧ w' = w := by
  go_enter Try.func21, Try.ntmps21
  go_wp2_with fail
  go_ret
  exact ⟨rfl, rfl⟩
end Go.Proofs.Ytcekipbjimbinaa
