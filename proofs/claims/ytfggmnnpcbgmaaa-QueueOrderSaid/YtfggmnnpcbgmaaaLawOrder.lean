/- The walk of QueueOrder: numbers rise, and what was put and not taken is there once. -/
import Derived.Test.YtfggmnnpcbgmaaaPair
import Derived.LoopTactic
import Derived.Deep.CutRange
namespace Go.Proofs.Ytfggmnnpcbgmaaa
open Go.RowKit Go.Shelf

theorem step_same {j k : Nat} {a : Int} (h : (if j < k then (j : Int) else -1) = a) (hk : ¬ k = j) : Value.int .i64 a = .int .i64 (if j < k + 1 then (j : Int) else -1) := by
  rw [← h]
  by_cases hc : j < k
  · rw [if_pos hc, if_pos (by omega)]
  · rw [if_neg hc, if_neg (by omega)]
set_option maxRecDepth 100000 in
set_option maxHeartbeats 4000000 in
theorem queueOrder_any (most : Int) (hmost : most ≤ 9223372036854775807) (u : Value) (l : List (Int × Int × Int)) (w : World) (hS : Steps w u l) (hl : l.length * 24 ≤ 140737488351232) : Calls Try.prog 4 #[.int .i64 most, u] w fun e w' => e = .returned (.bool true) ∧ Below w.heap.size w w' := by
  have hA := Lib.hid (awake_any w)
  obtain ⟨ua, uc, rfl⟩ := hS.len
  replace hS := Lib.hid hS
  by_cases hm : most < 1
  · have tm : decide (most < 1) = true := by simp; omega
    have hN := Lib.hid (fun W => new_low most hm W)
    go_enter Try.func4, Try.ntmps4
    go_wp2_with fail
    refine hA.out.mono ?_
    rintro e w1 ⟨rfl, hB1⟩
    go_wp2_with fail
    refine (hN.out _).mono ?_
    rintro e w2 ⟨rfl, rfl⟩
    go_wp2_with fail
    go_ret
    exact ⟨rfl, hB1⟩
  have hN := Lib.hid (fun W => has_new most (by omega) W)
  replace hm := Lib.hid hm
  replace hmost := Lib.hid hmost
  replace hl := Lib.hid hl
  go_enter Try.func4, Try.ntmps4
  go_wp2_with fail
  refine hA.out.mono ?_
  rintro e w1 ⟨rfl, hB1⟩
  go_wp2_with fail
  refine (hN.out _).mono ?_
  rintro e w2 ⟨p, rfl, hH, hB2⟩
  have hB0 := hB1.trans (hB2.mono hB1.size)
  have hs1 := hB1.size
  have hst : Hid (St w1.heap.size w w2 p [] most (-1) (.slice none 0 0) [] (.slice none 0 0) []) := Lib.hid ⟨hH, World.ownsRow_nil _ _ _ _, World.ownsRow_nil _ _ _ _, .inl rfl, hB0, hs1⟩
  clear hB1 hB2 hA hN hH hB0 hs1
  generalize hw1 : w1.heap.size = N1 at *
  replace hw1 := Lib.hid hw1
  go_wp2_with fail
  have hw20 := hst
  go_loopw [7, 8, 9, 10] (fun v7 v8 v9 v10 wr => ∃ (i : Nat) (its : List (Int × Int)) (last : Int), v9 = .int .i64 last ∧ v10 = .int .i64 i ∧ Hid (i ≤ l.length ∧ its.length ≤ i) ∧ Hid (St N1 w wr p its most last v7 (its.map Prod.fst) v8 (its.map Prod.snd))) (fun _ _ _ v10 _ => l.length - (intOf v10).toNat)
  case atStart => exact ⟨0, [], -1, rfl, rfl, Lib.hid (by simp), hst⟩
  case round =>
    clear hst hw20
    obtain ⟨i, its, last, rfl, rfl, hb, hst⟩ := hrel
    obtain ⟨a7, c7, rfl, hc7⟩ := own_slice hst.out.ids
    obtain ⟨a8, c8, rfl, hc8⟩ := own_slice hst.out.things
    rw [List.length_map] at hc7 hc8
    simp only [List.length_map] at hst ⊢
    by_cases hi : i < l.length
    · obtain ⟨b, off, hua, s0, s1, s2⟩ := (hS.out.below hst.out.low).at i hi
      subst hua
      generalize (l.getD i (0, 0, 0)).1 = kd at *
      generalize (l.getD i (0, 0, 0)).2.1 = id at *
      generalize (l.getD i (0, 0, 0)).2.2 = x at *
      have hl63 : IntKind.i64.wrap ((i : Int) + 1) = ((i + 1 : Nat) : Int) := by
        have := hl.out
        rw [IntWalk.i64_in _ (by omega)]; omega
      go_upto_if 51 with (fail)
      have hst3 := Lib.hid (hst.out.below ((Below.refl _ wr).alloc (Nat.le_refl _) (.cells #[.int .i64 kd, .int .i64 id, .int .i64 x] 37)))
      have hbox := Blk.new wr #[.int .i64 kd, .int .i64 id, .int .i64 x] 37
      replace hst := Lib.hid hst.out.size
      generalize wr.alloc (.cells #[.int .i64 kd, .int .i64 id, .int .i64 x] 37) = w3 at *
      generalize wr.heap.size = bx at *
      replace hbox := Lib.hid hbox
      clear s0 s1 s2
      have hll := hl.out
      have hb2 := hb.out
      have hlen : its.length ≤ 11728124029268 := by omega
      clear hll hb2
      go_cut [7, 8, 9] from 39 to 161 (fun v7 v8 v9 wc => ∃ (its : List (Int × Int)) (last : Int), v9 = .int .i64 last ∧ Hid (its.length ≤ i + 1) ∧ Hid (St N1 w wc p its most last v7 (its.map Prod.fst) v8 (its.map Prod.snd)) ∧ Hid (Blk wc bx #[.int .i64 kd, .int .i64 id, .int .i64 x] 37))
      case first =>
        have hP := Lib.hid (has_put hst3.out.has id x hlen)
        have k0 : w3.cell? ⟨bx, 0, none⟩ = some (.int .i64 kd) := hbox.out.cell rfl
        have k1 : w3.cell? ⟨bx, 1, none⟩ = some (.int .i64 id) := hbox.out.cell rfl
        have k2 : w3.cell? ⟨bx, 2, none⟩ = some (.int .i64 x) := hbox.out.cell rfl
        by_cases hkd : kd = 0
        · subst hkd
          go_wp2_with fail
          refine hP.out.mono ?_
          rintro e w4 ⟨hr, hK⟩
          have hbox4 := Lib.hid (hK.blk (by decide) (by decide) hbox.out)
          rcases hr with ⟨rfl, hli, _, hH4⟩ | hr
          · have hst4 := Lib.hid (hst3.out.move hK hH4)
            have tl : decide (id ≤ last) = false := by simp; omega
            have j1 : w4.cell? ⟨bx, 1, none⟩ = some (.int .i64 id) := hbox4.out.cell rfl
            have hap := Lib.hid (hst4.out.appI id (by have := hl.out; have := hb.out; rw [List.length_map]; omega) 35)
            replace hK := Lib.hid hK
            replace hH4 := Lib.hid hH4
            clear k0 k1 k2
            go_wp2_with (first
              | (at_builtin; refine wpList_append_known _ rfl _ _ 35 rfl _ _ rfl rfl _ hap2.out ?_; rintro v8 w6 ⟨hst6, hkp6⟩; have hbox6 := Lib.hid (hkp6 bx _ _ (by decide) hbox5.out); replace hst6 := Lib.hid hst6; replace hkp6 := Lib.hid hkp6)
              | (at_builtin; refine wpList_append_known _ rfl _ _ 35 rfl _ _ rfl rfl _ hap.out ?_; rintro v7 w5 ⟨hst5, hkp5⟩; have hbox5 := Lib.hid (hkp5 bx _ _ (by decide) hbox4.out); have j2 : w5.cell? ⟨bx, 2, none⟩ = some (.int .i64 x) := hbox5.out.cell rfl; have hap2 := Lib.hid (hst5.appT x (by have := hl.out; have := hb.out; rw [List.length_map]; omega) 35); replace hst5 := Lib.hid hst5; replace hkp5 := Lib.hid hkp5))
            go_meet
            case rel => exact ⟨its ++ [(id, x)], id, rfl, Lib.hid (by have := hb.out; rw [List.length_append]; simp; omega), by rw [List.map_append, List.map_append]; exact hst6, hbox6⟩
          · have hst4 : Hid (St N1 w w4 p its most last (.slice a7 its.length c7) (its.map Prod.fst) (.slice a8 its.length c8) (its.map Prod.snd)) := Lib.hid (hst3.out.move hK (by rcases hr with ⟨_, _, h⟩ | ⟨_, _, _, h⟩ <;> exact h))
            obtain ⟨cd, hcd, rfl⟩ : ∃ cd : Int, (cd == 0) = false ∧ e = .returned (.int .i64 cd) := by
              rcases hr with ⟨_, h, _⟩ | ⟨_, _, h, _⟩
              · exact ⟨2, by decide, h⟩
              · exact ⟨120, by decide, h⟩
            clear hr
            replace hK := Lib.hid hK
            go_wp2_with fail
            go_meet
            case rel => exact ⟨its, last, rfl, Lib.hid (by have := hb.out; omega), hst4, hbox4⟩
        · have tk : (kd == 0) = false := by simp; exact hkd
          go_wp2_with fail
          go_meet
          case rel => exact ⟨its, last, rfl, Lib.hid (by have := hb.out; omega), hst3, hbox⟩
      case rest =>
        clear hst3 hbox hst hb hlen hc7 hc8
        obtain ⟨its2, last2, rfl, hb, hst, hbox⟩ := hcut
        obtain ⟨d7, e7, rfl, hc7⟩ := own_slice hst.out.ids
        obtain ⟨d8, e8, rfl, hc8⟩ := own_slice hst.out.things
        rw [List.length_map] at hc7 hc8
        simp only [List.length_map] at hst ⊢
        have k0 : wc.cell? ⟨bx, 0, none⟩ = some (.int .i64 kd) := hbox.out.cell rfl
        have k1 : wc.cell? ⟨bx, 1, none⟩ = some (.int .i64 id) := hbox.out.cell rfl
        go_upto_if 77 with (fail)
        go_cut [7, 8] from 39 to 161 (fun v7 v8 wd => ∃ its : List (Int × Int), Hid (its.length ≤ i + 1) ∧ Hid (St N1 w wd p its most last2 v7 (its.map Prod.fst) v8 (its.map Prod.snd)))
        case first =>
          by_cases hkd : kd = 1
          · subst hkd
            by_cases hj : ∃ j, j < its2.length ∧ idAt its2 j = id
            · obtain ⟨j, hj, rfl⟩ := hj
              have hT := Lib.hid (has_take hst.out.has j hj)
              go_wp2_with fail
              refine hT.out.mono ?_
              rintro e w4 ⟨rfl, hH4, hK⟩
              have hst4 := Lib.hid (hst.out.move hK hH4)
              have hbox4 := Lib.hid (hK.blk (by decide) (by decide) hbox.out)
              obtain ⟨g7, f7, e1, _, _⟩ := own_some hst.out.ids (by rw [List.length_map]; omega)
              obtain ⟨g8, f8, e2, _, _⟩ := own_some hst.out.things (by rw [List.length_map]; omega)
              rw [List.length_map] at e1 e2
              cases e1
              cases e2
              have hrise := Lib.hid (show Rise (idAt its2) its2.length by obtain ⟨_, _, _, _, _, _, _, h, _⟩ := hst.out.has; exact h)
              have hcell7 : ∀ k, k < its2.length → w4.cell? ⟨g7, k, none⟩ = some (.int .i64 (idAt its2 k)) := fun k hk => by
                have := own_cell hst4.out.ids k (by rw [List.length_map]; exact hk)
                rw [show (its2.map Prod.fst).getD k 0 = idAt its2 k by simp [idAt, List.getD, hk]] at this
                exact this
              have hcell8 : w4.cell? ⟨g8, j, none⟩ = some (.int .i64 (its2.getD j (0, 0)).2) := by
                have := own_cell hst4.out.things j (by rw [List.length_map]; exact hj)
                rw [show (its2.map Prod.snd).getD j 0 = (its2.getD j (0, 0)).2 by simp [List.getD, hj]] at this
                exact this
              have hb1 : w4.cell? ⟨bx, 1, none⟩ = some (.int .i64 (idAt its2 j)) := hbox4.out.cell rfl
              have hyy : (((its2.getD j (0, 0)).2 : Int) == (its2.getD j (0, 0)).2) = true := beq_self_eq_true _
              clear hT
              generalize (its2.getD j (0, 0)).2 = y at *
              replace hcell7 := Lib.hid hcell7
              replace hH4 := Lib.hid hH4
              replace hK := Lib.hid hK
              clear k0 k1
              have hlen63 : its2.length ≤ 11728124029268 := by have := hb.out; have := hl.out; omega
              go_wp2_with fail
              go_loopw [14, 15] (fun v14 v15 wi => ∃ k q : Nat, v15 = .int .i64 k ∧ Hid (k ≤ its2.length) ∧ v14 = .int .i64 (if j < k then (j : Int) else -1) ∧ wi = w4.drewN q) (fun _ v15 _ => its2.length - (intOf v15).toNat)
              case atStart => exact ⟨0, 0, rfl, Lib.hid (by omega), by simp, rfl⟩
              case round =>
                obtain ⟨k, q, rfl, hk, rfl, rfl⟩ := hrel
                generalize hat0 : (if j < k then (j : Int) else -1) = at0 at *
                replace hat0 := Lib.hid hat0
                by_cases hkl : k < its2.length
                · have cA := hcell7.out k hkl
                  have hwk : IntKind.i64.wrap ((k : Int) + 1) = ((k + 1 : Nat) : Int) := by
                    rw [IntWalk.i64_in _ (by omega)]; omega
                  by_cases hkj : k = j
                  · subst hkj
                    have t1 : (idAt its2 k == idAt its2 k) = true := beq_self_eq_true _
                    go_wp2_with fail
                    go_quiet (fail)
                    go_wp2_with fail
                    refine ⟨⟨k + 1, q + _, by go_num, Lib.hid (by omega), by rw [if_pos (by omega)], rfl⟩, ?_⟩
                    simp [intOf]; omega
                  · have t1 : (idAt its2 k == idAt its2 j) = false := by
                      rw [beq_eq_false_iff_ne]
                      rcases Nat.lt_or_ge k j with h | h
                      · exact Int.ne_of_lt (hrise.out k j h hj)
                      · exact Int.ne_of_gt (hrise.out j k (by omega) hkl)
                    replace hkj := Lib.hid hkj
                    go_wp2_with fail
                    go_quiet (fail)
                    go_wp2_with fail
                    refine ⟨⟨k + 1, q + _, by go_num, Lib.hid (by omega), step_same hat0.out hkj.out, rfl⟩, ?_⟩
                    simp [intOf]; omega
                · obtain rfl : k = its2.length := by have := hk.out; omega
                  obtain rfl : at0 = (j : Int) := by have := hat0.out; rw [if_pos hj] at this; exact this.symm
                  have hstq := hst4.out.drewN q
                  have hap1 := Lib.hid (cut_one hstq.ids (by simp) j (by simpa using hj) (by simp; omega) e7 35)
                  have hap2 := Lib.hid (fun v1 w5 ho hB => cut_two (v1 := v1) (w1 := w5) hstq.ids j (by simpa using hj) (by simp; omega) ho hB 35)
                  have hap3 := Lib.hid (fun w6 (hB : Below (w4.drewN q).heap.size (w4.drewN q) w6) => cut_one (own_belowE hstq.things hB) (by simp) j (by simpa using hj) (by simp; omega) e8 35)
                  have hap4 := Lib.hid (fun w6 (hB : Below (w4.drewN q).heap.size (w4.drewN q) w6) v1 w5 ho hB' => cut_two (v1 := v1) (w1 := w5) (own_belowE hstq.things hB) j (by simpa using hj) (by simp; omega) ho hB' 35)
                  rw [List.length_map] at hap2 hap4
                  replace hstq := Lib.hid hstq
                  have hwj : IntKind.i64.wrap ((j : Int) + 1) = ((j + 1 : Nat) : Int) := by
                    rw [IntWalk.i64_in _ (by omega)]; omega
                  obtain ⟨A7, hA7, hA7'⟩ : ∃ A : Addr, (if e7 = j + 1 then some (⟨g7, 0, none⟩ : Addr) else some ⟨g7, j + 1, none⟩) = some A ∧ (j + 1 < its2.length → A = ⟨g7, j + 1, none⟩) := by
                    by_cases h : e7 = j + 1
                    · exact ⟨_, if_pos h, fun h2 => by omega⟩
                    · exact ⟨_, if_neg h, fun _ => rfl⟩
                  obtain ⟨A8, hA8, hA8'⟩ : ∃ A : Addr, (if e8 = j + 1 then some (⟨g8, 0, none⟩ : Addr) else some ⟨g8, j + 1, none⟩) = some A ∧ (j + 1 < its2.length → A = ⟨g8, j + 1, none⟩) := by
                    by_cases h : e8 = j + 1
                    · exact ⟨_, if_pos h, fun h2 => by omega⟩
                    · exact ⟨_, if_neg h, fun _ => rfl⟩
                  replace hap2 := Lib.hid (fun v1 w5 ho hB => hap2.out v1 w5 ho hB A7 hA7' (e7 - (j + 1)))
                  replace hap4 := Lib.hid (fun w6 hB v1 w5 ho hB' => hap4.out w6 hB v1 w5 ho hB' A8 hA8' (e8 - (j + 1)))
                  clear hA7' hA8'
                  go_wp2_with (first
                    | (at_builtin; refine wpList_append_known _ rfl (.tmp 134) (.tmp 138) 35 rfl _ _ rfl rfl _ (hap4.out w6 hB2.out v3 w7 ho3.out hB3.out) ?_; rintro v4 w8 ⟨ho4, hB4⟩; replace ho4 := Lib.hid ho4; replace hB4 := Lib.hid hB4)
                    | (at_builtin; refine wpList_append_known _ rfl (.tmp 129) (.tmp 132) 35 rfl _ _ rfl rfl _ (hap3.out w6 hB2.out) ?_; rintro v3 w7 ⟨ho3, hB3⟩; replace ho3 := Lib.hid ho3; replace hB3 := Lib.hid hB3)
                    | (at_builtin; refine wpList_append_known _ rfl (.tmp 123) (.tmp 127) 35 rfl _ _ rfl rfl _ (hap2.out v1 w5 ho1.out hB1.out) ?_; rintro v2 w6 ⟨ho2, hB2⟩; replace ho2 := Lib.hid ho2; replace hB2 := Lib.hid hB2)
                    | (at_builtin; refine wpList_append_known _ rfl (.tmp 118) (.tmp 121) 35 rfl _ _ rfl rfl _ hap1.out ?_; rintro v1 w5 ⟨ho1, hB1⟩; replace ho1 := Lib.hid ho1; replace hB1 := Lib.hid hB1))
                  have hln : (its2.eraseIdx j).length = its2.length - 1 := by rw [List.length_eraseIdx, if_pos hj]
                  have ho2' : w6.ownsRow (w4.drewN q).heap.size 3 1 v2 ((its2.eraseIdx j).map Prod.fst).length (intsI ((its2.eraseIdx j).map Prod.fst)) := by
                    have := ho2.out
                    rw [map_erase] at this
                    rw [List.length_map, hln]
                    exact this
                  have ho4' : w8.ownsRow w6.heap.size 3 1 v4 ((its2.eraseIdx j).map Prod.snd).length (intsI ((its2.eraseIdx j).map Prod.snd)) := by
                    have := ho4.out
                    rw [map_erase] at this
                    rw [List.length_map, hln]
                    exact this
                  have hend := Lib.hid (hstq.out.cut ho2' hB2.out ho4' hB4.out)
                  go_meet
                  case rel => exact ⟨its2.eraseIdx j, Lib.hid (by have := hb.out; omega), hend⟩
            · have hno : ∀ k, k < its2.length → idAt its2 k ≠ id := fun k hk e => hj ⟨k, hk, e⟩
              have hT := Lib.hid (has_take_none hst.out.has id hno)
              have hcell7 : ∀ k, k < its2.length → ∃ g, d7 = some ⟨g, 0, none⟩ ∧ wc.cell? ⟨g, k, none⟩ = some (.int .i64 (idAt its2 k)) := fun k hk => by
                obtain ⟨g7, f7, e1, _, _⟩ := own_some hst.out.ids (by rw [List.length_map]; omega)
                rw [List.length_map] at e1
                cases e1
                have := own_cell hst.out.ids k (by rw [List.length_map]; exact hk)
                rw [show (its2.map Prod.fst).getD k 0 = idAt its2 k by simp [idAt, List.getD, hk]] at this
                exact ⟨g7, rfl, this⟩
              replace hcell7 := Lib.hid hcell7
              replace hno := Lib.hid hno
              have hlen63 : its2.length ≤ 11728124029268 := by have := hb.out; have := hl.out; omega
              replace hj := Lib.hid hj
              go_wp2_with fail
              refine hT.out.mono ?_
              rintro e w4 ⟨rfl, q0, rfl⟩
              go_wp2_with fail
              go_loopw [14, 15] (fun v14 v15 wi => ∃ k q : Nat, v15 = .int .i64 k ∧ Hid (k ≤ its2.length) ∧ v14 = .int .i64 (-1) ∧ wi = wc.drewN q) (fun _ v15 _ => its2.length - (intOf v15).toNat)
              case atStart => exact ⟨0, q0, rfl, Lib.hid (by omega), rfl, rfl⟩
              case round =>
                obtain ⟨k, q, rfl, hk, rfl, rfl⟩ := hrel
                by_cases hkl : k < its2.length
                · obtain ⟨g, rfl, cA⟩ := hcell7.out k hkl
                  have hwk : IntKind.i64.wrap ((k : Int) + 1) = ((k + 1 : Nat) : Int) := by
                    rw [IntWalk.i64_in _ (by omega)]; omega
                  have t1 : (idAt its2 k == id) = false := by
                    rw [beq_eq_false_iff_ne]
                    exact hno.out k hkl
                  go_wp2_with fail
                  go_quiet (fail)
                  go_wp2_with fail
                  refine ⟨⟨k + 1, q + _, by go_num, Lib.hid (by omega), rfl, rfl⟩, ?_⟩
                  simp [intOf]; omega
                · obtain rfl : k = its2.length := by have := hk.out; omega
                  have hend := Lib.hid (hst.out.drewN q)
                  go_wp2_with fail
                  go_meet
                  case rel => exact ⟨its2, hb, hend⟩
          · have tk : (kd == 1) = false := by simp; exact hkd
            go_wp2_with fail
            go_meet
            case rel => exact ⟨its2, hb, hst⟩
        case rest =>
          clear hst hbox hb hc7 hc8 k0 k1
          obtain ⟨its3, hb, hst⟩ := hcut
          obtain ⟨d7, e7, rfl, hc7⟩ := own_slice hst.out.ids
          obtain ⟨d8, e8, rfl, hc8⟩ := own_slice hst.out.things
          rename_i wc3
          rw [List.length_map] at hc7 hc8
          simp only [List.length_map] at hst
          have hLen := Lib.hid (has_len hst.out.has)
          have hRm := Lib.hid (has_room hst.out.has hmost.out)
          have hLast := fun q => has_last (hst.out.has.drewN q)
          have hsm := hst.out.has.small.2
          have tsum : IntKind.i64.wrap ((its3.length : Int) + (most - (its3.length : Int))) = most := by
            have := hmost.out; have := hm.out
            rw [IntWalk.i64_in _ (by omega)]; omega
          have t1 : ((its3.length : Int) == (its3.length : Int)) = true := beq_self_eq_true _
          have t2 : (most == most) = true := beq_self_eq_true _
          have t3 : (last2 == last2) = true := beq_self_eq_true _
          replace hLast := Lib.hid hLast
          clear hsm
          go_wp2_with fail
          refine hLen.out.mono ?_
          rintro e w4 ⟨rfl, rfl⟩
          go_wp2_with fail
          refine hLen.out.mono ?_
          rintro e w4 ⟨rfl, rfl⟩
          go_wp2_with fail
          refine hRm.out.mono ?_
          rintro e w4 ⟨rfl, q, rfl⟩
          go_wp2_with fail
          refine (hLast.out q).mono ?_
          rintro e w4 ⟨rfl, rfl⟩
          have hst5 := Lib.hid (hst.out.drewN q)
          go_wp2_with fail
          refine ⟨⟨i + 1, its3, last2, rfl, by go_num, Lib.hid (by have := hb.out; omega), hst5⟩, ?_⟩
          simp [intOf]; omega
    · have hcells : ∀ k, k < its.length → ∃ g7 g8, a7 = some ⟨g7, 0, none⟩ ∧ a8 = some ⟨g8, 0, none⟩ ∧ wr.cell? ⟨g7, k, none⟩ = some (.int .i64 (idAt its k)) ∧ wr.cell? ⟨g8, k, none⟩ = some (.int .i64 (its.getD k (0, 0)).2) := fun k hk => by
        obtain ⟨g7, f7, e1, _, _⟩ := own_some hst.out.ids (by rw [List.length_map]; omega)
        obtain ⟨g8, f8, e2, _, _⟩ := own_some hst.out.things (by rw [List.length_map]; omega)
        rw [List.length_map] at e1 e2
        cases e1
        cases e2
        have h1 := own_cell hst.out.ids k (by rw [List.length_map]; exact hk)
        have h2 := own_cell hst.out.things k (by rw [List.length_map]; exact hk)
        rw [show (its.map Prod.fst).getD k 0 = idAt its k by simp [idAt, List.getD, hk]] at h1
        rw [show (its.map Prod.snd).getD k 0 = (its.getD k (0, 0)).2 by simp [List.getD, hk]] at h2
        exact ⟨g7, g8, rfl, rfl, h1, h2⟩
      replace hcells := Lib.hid hcells
      have hlow := Lib.hid hst.out.low
      have hrise := Lib.hid (show Rise (idAt its) its.length by obtain ⟨_, _, _, _, _, _, _, h, _⟩ := hst.out.has; exact h)
      have hlen63 : its.length ≤ 11728124029268 := by have := hb.out; have := hl.out; omega
      go_wp2_with fail
      go_loopw [18] (fun v18 wi => ∃ k q : Nat, v18 = .int .i64 k ∧ Hid (k ≤ its.length) ∧ wi = wr.drewN q) (fun v18 _ => its.length - (intOf v18).toNat)
      case atStart => exact ⟨0, 0, rfl, Lib.hid (by omega), rfl⟩
      case round =>
        obtain ⟨k, q, rfl, hk, rfl⟩ := hrel
        by_cases hkl : k < its.length
        · obtain ⟨g7, g8, rfl, rfl, cA, cB⟩ := hcells.out k hkl
          have hAt := has_at (hst.out.has.drewN q) k hkl
          have hF := fun q => has_find (hst.out.has.drewN q) (idAt its k)
          rw [show (its.getD k (0, 0)).1 = idAt its k from rfl] at hAt
          have hsame : ∀ j, j < its.length → idAt its j = idAt its k → j = k := fun j hj e => by
            rcases Nat.lt_trichotomy j k with h1 | h1 | h1
            · have := hrise.out j k h1 hkl; omega
            · exact h1
            · have := hrise.out k j h1 hj; omega
          generalize (its.getD k (0, 0)).2 = y at *
          have hwk : IntKind.i64.wrap ((k : Int) + 1) = ((k + 1 : Nat) : Int) := by
            rw [IntWalk.i64_in _ (by omega)]; omega
          have hno : ¬ ∀ j, j < its.length → idAt its j ≠ idAt its k := fun h => h k hkl rfl
          replace hAt := Lib.hid hAt
          replace hF := Lib.hid hF
          replace hsame := Lib.hid hsame
          replace hno := Lib.hid hno
          have t1 : (idAt its k == idAt its k) = true := beq_self_eq_true _
          have t2 : (y == y) = true := beq_self_eq_true _
          have t3 : ((k : Int) == (k : Int)) = true := beq_self_eq_true _
          go_wp2_with fail
          refine hAt.out.mono ?_
          rintro e w4 ⟨rfl, q1, rfl⟩
          go_wp2_with fail
          refine (hF.out (q + q1)).mono ?_
          rintro e w4 ⟨⟨j, hj, e2, rfl⟩ | ⟨h, _⟩, q2, rfl⟩
          · obtain rfl := hsame.out j hj e2
            go_wp2_with fail
            refine ⟨⟨j + 1, q + q1 + q2, by go_num, Lib.hid (by omega), rfl⟩, ?_⟩
            simp [intOf]; omega
          · exact absurd h hno.out
        · obtain rfl : k = its.length := by have := hk.out; omega
          go_wp2_with fail
          go_ret
          exact ⟨rfl, below_drawn hlow.out q⟩
end Go.Proofs.Ytfggmnnpcbgmaaa
