/- The walk of QueueFirst: what came first goes first, round upon round. -/
import Derived.Test.YtfggmnnpcbgmaaaAwake
import Derived.LoopTactic
namespace Go.Proofs.Ytfggmnnpcbgmaaa
open Go.RowKit Go.Shelf

/-- The things numbered from one number on, up to another. -/
def seqQ (f : Int → Int) (o a : Nat) : List (Int × Int) := (List.range (a - o)).map fun k => (((o + k : Nat) : Int), f ((o + k : Nat) : Int))
theorem seqQ_length (f : Int → Int) (o a : Nat) : (seqQ f o a).length = a - o := by simp [seqQ]
theorem seqQ_at (f : Int → Int) (o a k : Nat) (hk : k < a - o) : (seqQ f o a).getD k (0, 0) = (((o + k : Nat) : Int), f ((o + k : Nat) : Int)) := by
  simp [seqQ, List.getD, hk]
theorem seqQ_snoc (f : Int → Int) (o a : Nat) (h : o ≤ a) : seqQ f o a ++ [((a : Int), f a)] = seqQ f o (a + 1) := by
  unfold seqQ
  rw [show a + 1 - o = (a - o) + 1 by omega, List.range_succ, List.map_append, List.map_singleton, show o + (a - o) = a by omega]
theorem seqQ_erase (f : Int → Int) (o a : Nat) (h : o < a) : (seqQ f o a).eraseIdx 0 = seqQ f (o + 1) a := by
  refine list_pairs ?_ fun i hi => ?_
  · rw [List.length_eraseIdx, seqQ_length, seqQ_length, if_pos (by omega)]; omega
  · rw [List.length_eraseIdx, seqQ_length, if_pos (by omega)] at hi
    rw [seqQ_at f (o + 1) a i (by omega)]
    have : ((seqQ f o a).eraseIdx 0).getD i (0, 0) = (seqQ f o a).getD (i + 1) (0, 0) := by simp [List.getD]
    rw [this, seqQ_at f o a (i + 1) (by omega), show o + (i + 1) = o + 1 + i by omega]

set_option maxRecDepth 100000 in
set_option maxHeartbeats 1000000 in
theorem queueFirst_any (most rounds x : Int) (w : World) : Calls Try.prog 3 #[.int .i64 most, .int .i64 rounds, .int .i64 x] w fun e w' => e = .returned (.bool true) ∧ Below w.heap.size w w' := by
  have hA := Lib.hid (awake_any w)
  by_cases hg : most < 1 ∨ 64 < most ∨ rounds < 0 ∨ 64 < rounds
  · replace hg := Lib.hid hg
    go_enter Try.func3, Try.ntmps3
    go_wp2_with fail
    refine hA.out.mono ?_
    rintro e w1 ⟨rfl, hB1⟩
    go_wp2_with fail
    all_goals first
      | (go_ret; exact ⟨rfl, hB1⟩)
      | (exfalso; have := hg.out; omega)
  have hm1 : 1 ≤ most := by omega
  have hm2 : most ≤ 64 := by omega
  have hr1 : 0 ≤ rounds := by omega
  have hr2 : rounds ≤ 64 := by omega
  clear hg
  obtain ⟨M, rfl⟩ : ∃ M : Nat, most = (M : Int) := ⟨most.toNat, by omega⟩
  obtain ⟨R, rfl⟩ : ∃ R : Nat, rounds = (R : Int) := ⟨rounds.toNat, by omega⟩
  have tA : decide ((M : Int) < 1) = false := by simp; omega
  have tB : decide ((64 : Int) < (M : Int)) = false := by simp; omega
  have tC : decide ((R : Int) < 0) = false := by simp
  have tD : decide ((64 : Int) < (R : Int)) = false := by simp; omega
  have hb := Lib.hid (show 1 ≤ M ∧ M ≤ 64 ∧ R ≤ 64 by omega)
  have hN := Lib.hid (fun W => has_new (M : Int) hm1 W)
  have hM0 : ((M : Int) == 0) = false := by rw [beq_eq_false_iff_ne]; omega
  have hM0' : (M : Int) ≠ 0 := by omega
  clear hm1 hm2 hr1 hr2
  go_enter Try.func3, Try.ntmps3
  go_wp2_with fail
  refine hA.out.mono ?_
  rintro e w1 ⟨rfl, hB1⟩
  go_wp2_with fail
  refine (hN.out _).mono ?_
  rintro e w2 ⟨p, rfl, hH, hB2⟩
  have hB0 := Lib.hid (hB1.trans (hB2.mono hB1.size))
  have hs1 := Lib.hid hB1.size
  replace hH := Lib.hid hH
  clear hB1 hB2 hA hN
  generalize hw1 : w1.heap.size = N1 at *
  replace hw1 := Lib.hid hw1
  go_wp2_with fail
  have hB0' := hB0.out
  obtain ⟨F, hFd⟩ : ∃ F : Int → Int, ∀ j, bits .xor .i64 x j = F j := ⟨_, fun _ => rfl⟩
  have hF : ∀ W, Has N1 W p (seqQ F 0 0) (M : Int) (((0 : Nat) : Int) - 1) ↔ Has N1 W p [] (M : Int) (-1) := fun W => Iff.rfl
  go_loopw [9, 10, 11] (fun v9 v10 v11 wr => ∃ i a o : Nat, v9 = .int .i64 a ∧ v10 = .int .i64 o ∧ v11 = .int .i64 i ∧ Hid (i ≤ R ∧ o ≤ a ∧ a ≤ 64 * i) ∧ Hid (Has N1 wr p (seqQ F o a) M ((a : Int) - 1)) ∧ Hid (Below w.heap.size w wr)) (fun _ _ v11 _ => R - (intOf v11).toNat)
  case atStart => exact ⟨0, 0, 0, rfl, rfl, rfl, Lib.hid (by omega), Lib.hid ((hF _).2 hH.out), Lib.hid hB0'⟩
  case round =>
    obtain ⟨i, a, o, rfl, rfl, rfl, hb1, hH, hB⟩ := hrel
    by_cases hi : i < R
    · have tI : decide ((i : Int) < (R : Int)) = true := by simp; omega
      have hMp : 0 < M := by have := hb.out; omega
      have tm1 : ((i : Nat) : Int).tmod (M : Int) = ((i % M : Nat) : Int) := by
        rw [Int.tmod_eq_emod_of_nonneg (by omega)]; omega
      obtain ⟨j2, hj2⟩ : ∃ j2 : Nat, j2 = i / 2 := ⟨_, rfl⟩
      have hd2 : (i : Int) / 2 = (j2 : Int) := by omega
      have tm2 : (j2 : Int).tmod (M : Int) = ((j2 % M : Nat) : Int) := by
        rw [Int.tmod_eq_emod_of_nonneg (by omega)]; omega
      have hm1 : i % M < M := Nat.mod_lt _ hMp
      have hm2 : j2 % M < M := Nat.mod_lt _ hMp
      have hM64 : M ≤ 64 := hb.out.2.1
      have hfw1 : IntKind.i64.wrap ((i % M : Nat) : Int) = ((i % M : Nat) : Int) := IntWalk.i64_in _ (by omega)
      have hfw2 : IntKind.i64.wrap ((j2 % M : Nat) : Int) = ((j2 % M : Nat) : Int) := IntWalk.i64_in _ (by omega)
      have hR64 := hb.out.2.2
      have hfw3 : IntKind.i64.wrap (j2 : Int) = (j2 : Int) := IntWalk.i64_in _ (by omega)
      have hwi : IntKind.i64.wrap ((i : Int) + 1) = ((i + 1 : Nat) : Int) := by rw [IntWalk.i64_in _ (by omega)]; omega
      clear hR64 hj2
      replace hm1 := Lib.hid hm1
      replace hm2 := Lib.hid hm2
      replace hM64 := Lib.hid hM64
      replace hMp := Lib.hid hMp
      generalize i % M = m1 at *
      generalize j2 % M = m2 at *
      go_wp2_with fail
      go_loopw [9, 12] (fun v9 v12 wi => ∃ a k : Nat, v9 = .int .i64 a ∧ v12 = .int .i64 k ∧ Hid (k ≤ m1 + 1 ∧ o ≤ a ∧ a ≤ 64 * i + k) ∧ Hid (Has N1 wi p (seqQ F o a) M ((a : Int) - 1)) ∧ Hid (Below w.heap.size w wi)) (fun _ v12 _ => m1 + 1 - (intOf v12).toNat)
      case atStart => exact ⟨a, 0, rfl, rfl, Lib.hid (by have := hb1.out; omega), hH, hB⟩
      case round =>
        clear hb1 hH hB
        obtain ⟨a, k, rfl, rfl, hb1, hH, hB⟩ := hrel
        rename_i wi
        by_cases hk : k ≤ m1
        · have tk : decide ((k : Int) ≤ (m1 : Int)) = true := by simp; omega
          have hsz : (seqQ F o a).length ≤ 64 := by have := hH.out.small.2; have := hb.out; omega
          have hP := Lib.hid (has_put hH.out (a : Int) (F a) (by omega))
          have hln : (seqQ F o a).length = a - o := seqQ_length _ _ _
          replace hln := Lib.hid hln
          replace hsz := Lib.hid hsz
          have hwa : IntKind.i64.wrap ((a : Int) + 1) = ((a + 1 : Nat) : Int) := by
            have := hb1.out; have := hb.out; have := hm1.out
            rw [IntWalk.i64_in _ (by omega)]; omega
          have hwk : IntKind.i64.wrap ((k : Int) + 1) = ((k + 1 : Nat) : Int) := by
            have := hb1.out; have := hb.out; have := hm1.out
            rw [IntWalk.i64_in _ (by omega)]; omega
          go_wp2_with fail
          refine hP.out.mono ?_
          rintro e w3 ⟨(⟨rfl, _, _, hH3⟩ | ⟨h1, _⟩ | ⟨_, hfl, rfl, hH3⟩), hK3⟩
          · rw [seqQ_snoc F o a (by have := hb1.out; omega)] at hH3
            replace hH3 := Lib.hid hH3
            have hB3 := Lib.hid (hB.out.trans (hK3.low.mono hs1.out))
            replace hK3 := Lib.hid hK3
            go_wp2_with fail
            refine ⟨⟨a + 1, k + 1, by go_num, by go_num, Lib.hid (by have := hb1.out; omega), Lib.hid (by have := hH3.out; rw [show ((a + 1 : Nat) : Int) - 1 = (a : Int) by omega]; exact this), hB3⟩, ?_⟩
            simp [intOf]; omega
          · omega
          · have hrm := has_room hH3 (by have := hb.out; omega)
            rw [hfl, Int.sub_self] at hrm
            replace hrm := Lib.hid hrm
            have hB3 := Lib.hid (hB.out.trans (hK3.low.mono hs1.out))
            replace hK3 := Lib.hid hK3
            replace hH3 := Lib.hid hH3
            replace hfl := Lib.hid hfl
            go_wp2_with fail
            refine hrm.out.mono ?_
            rintro e w4 ⟨rfl, q, rfl⟩
            go_wp2_with fail
            go_ret
            exact ⟨rfl, below_drawn hB3.out q⟩
        · have tk : decide ((k : Int) ≤ (m1 : Int)) = false := by simp; omega
          go_wp2_with fail
          have hb2 := Lib.hid (show o ≤ a ∧ a ≤ 64 * (i + 1) by have := hb1.out; have := hm1.out; have := hM64.out; omega)
          clear hb1 hk tk
          go_loopw [10, 13] (fun v10 v13 wj => ∃ o k : Nat, v10 = .int .i64 o ∧ v13 = .int .i64 k ∧ Hid (k ≤ m2 + 1 ∧ o ≤ a) ∧ Hid (Has N1 wj p (seqQ F o a) M ((a : Int) - 1)) ∧ Hid (Below w.heap.size w wj)) (fun _ v13 _ => m2 + 1 - (intOf v13).toNat)
          case atStart => exact ⟨o, 0, rfl, rfl, Lib.hid (by have := hb2.out; omega), hH, hB⟩
          case round =>
            clear hH hB
            obtain ⟨o, k, rfl, rfl, hb1, hH, hB⟩ := hrel
            by_cases hk : k ≤ m2
            · have tk : decide ((k : Int) ≤ (m2 : Int)) = true := by simp; omega
              have hhl := Lib.hid (has_len hH.out)
              rw [seqQ_length] at hhl
              go_wp2_with fail
              refine hhl.out.mono ?_
              rintro e w3 ⟨rfl, rfl⟩
              by_cases hoa : o < a
              · have tl : decide ((0 : Int) < ((a - o : Nat) : Int)) = true := by simp; omega
                have tl2 : 0 < a - o := by omega
                have hl := seqQ_length F o a
                have h0 := seqQ_at F o a 0 (by omega)
                rw [Nat.add_zero] at h0
                have hAt := has_at hH.out 0 (by omega)
                have hTk := fun q => has_take (hH.out.drewN q) 0 (by omega)
                rw [seqQ_erase F o a hoa] at hTk
                unfold idAt at hTk
                rw [h0] at hAt hTk
                have t1 : ((o : Int) == (o : Int)) = true := beq_self_eq_true _
                have t2 : (F o == F o) = true := beq_self_eq_true _
                have hwo : IntKind.i64.wrap ((o : Int) + 1) = ((o + 1 : Nat) : Int) := by
                  have := hb1.out; have := hb2.out; have := hb.out
                  rw [IntWalk.i64_in _ (by omega)]; omega
                have hwk : IntKind.i64.wrap ((k : Int) + 1) = ((k + 1 : Nat) : Int) := by
                  have := hb1.out; have := hb2.out; have := hb.out; have := hm2.out; have := hM64.out
                  rw [IntWalk.i64_in _ (by omega)]; omega
                replace hAt := Lib.hid hAt
                replace hTk := Lib.hid hTk
                clear hl h0 hhl
                go_wp2_with fail
                refine hAt.out.mono ?_
                rintro e w4 ⟨rfl, q, rfl⟩
                go_wp2_with fail
                refine (hTk.out q).mono ?_
                rintro e w5 ⟨rfl, hH5, hK5⟩
                replace hH5 := Lib.hid hH5
                have hB5 := Lib.hid ((below_drawn hB.out q).trans (hK5.low.mono hs1.out))
                replace hK5 := Lib.hid hK5
                go_wp2_with fail
                refine ⟨⟨o + 1, k + 1, by go_num, by go_num, Lib.hid (by have := hb1.out; omega), hH5, hB5⟩, ?_⟩
                simp [intOf]; omega
              · obtain rfl : o = a := by have := hb1.out; omega
                rw [Nat.sub_self]
                go_wp2_with fail
                refine ⟨⟨i + 1, o, o, rfl, rfl, by go_num, Lib.hid (by have := hb1.out; have := hb2.out; omega), hH, hB⟩, ?_⟩
                simp [intOf]; omega
            · have tk : decide ((k : Int) ≤ (m2 : Int)) = false := by simp; omega
              go_wp2_with fail
              refine ⟨⟨i + 1, a, o, rfl, rfl, by go_num, Lib.hid (by have := hb1.out; have := hb2.out; omega), hH, hB⟩, ?_⟩
              simp [intOf]; omega
    · have tI : decide ((i : Int) < (R : Int)) = false := by simp; omega
      have hhl := Lib.hid (has_len hH.out)
      rw [seqQ_length] at hhl
      have hao : IntKind.i64.wrap ((a : Int) - (o : Int)) = ((a - o : Nat) : Int) := by
        have := hb1.out; have := hb.out
        rw [IntWalk.i64_in _ (by omega)]; omega
      go_wp2_with fail
      refine hhl.out.mono ?_
      rintro e w3 ⟨rfl, rfl⟩
      go_wp2_with fail
      go_ret
      exact ⟨by simp, hB.out⟩
end Go.Proofs.Ytfggmnnpcbgmaaa
