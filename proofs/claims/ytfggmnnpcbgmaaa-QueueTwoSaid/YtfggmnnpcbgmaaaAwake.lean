/- The queue laws' awake. -/
import Derived.Test.YtfggmnnpcbgmaaaHas
namespace Go.Proofs.Ytfggmnnpcbgmaaa
open Go.RowKit Go.Shelf

theorem awake_any (w : World) : Calls Try.prog 6 #[] w fun e w' => e = .returned (.bool true) ∧ Below w.heap.size w w' := by
  have hN := Lib.hid (has_new 1 (by decide) w)
  go_enter Try.func6, Try.ntmps6
  go_wp2_with fail
  refine hN.out.mono ?_
  rintro e w1 ⟨p, rfl, hH, hB⟩
  have hP := Lib.hid (has_put hH 0 5 (by decide))
  replace hH := Lib.hid hH
  go_wp2_with fail
  refine hP.out.mono ?_
  rintro e w2 ⟨(⟨rfl, h1, h2, hH2⟩ | ⟨h1, _⟩ | ⟨_, h2, _⟩), hK2⟩
  rotate_left
  · exact absurd h1 (by decide)
  · exact absurd h2 (by decide)
  have hP2 := Lib.hid (has_put hH2 1 6 (by decide))
  replace hH2 := Lib.hid hH2
  replace hK2 := Lib.hid hK2
  go_wp2_with fail
  refine hP2.out.mono ?_
  rintro e w3 ⟨(⟨_, _, h2, _⟩ | ⟨h1, _⟩ | ⟨_, _, rfl, hH3⟩), hK3⟩
  · exact absurd h2 (by decide)
  · exact absurd h1 (by decide)
  have hT := Lib.hid (show Calls _ _ #[_, .int .i64 0] _ _ from has_take hH3 0 (by decide))
  replace hH3 := Lib.hid hH3
  replace hK3 := Lib.hid hK3
  go_wp2_with fail
  refine hT.out.mono ?_
  rintro e w4 ⟨rfl, _, hK4⟩
  replace hK4 := Lib.hid hK4
  go_wp2_with fail
  go_ret
  exact ⟨rfl, hB.trans (hK2.out.low.trans (hK3.out.low.trans hK4.out.low))⟩
end Go.Proofs.Ytfggmnnpcbgmaaa
