/- The walk of QueueTwo: a copy has nothing to do with its queue. -/
import Derived.Test.YtfggmnnpcbgmaaaCopy
import Derived.LoopTactic
import Derived.Deep.RegionWith
namespace Go.Proofs.Ytfggmnnpcbgmaaa
open Go.RowKit Go.Shelf

theorem hasR_put_any {B : Nat} {w : World} {p : Nat} {its : List (Int × Int)} {most last : Int} (h : HasR B w p its most last) (id x : Int) (hsm : its.length ≤ 5864062014634) : Calls Try.prog 8 #[.pointer (some ⟨p, 0, none⟩), .int .i64 id, .int .i64 x] w fun e w' =>
    (∃ cd, e = .returned (.int .i64 cd)) ∧ (∃ its' last', its'.length ≤ its.length + 1 ∧ HasR B w' p its' most last') ∧ Kp B w w' := by
  refine (hasR_put h id x hsm).mono ?_
  rintro e w' ⟨⟨rfl, _, _, h⟩ | ⟨_, rfl, h⟩ | ⟨_, _, rfl, h⟩, hk⟩
  · exact ⟨⟨_, rfl⟩, ⟨_, _, by simp, h⟩, hk⟩
  · exact ⟨⟨_, rfl⟩, ⟨_, _, by omega, h⟩, hk⟩
  · exact ⟨⟨_, rfl⟩, ⟨_, _, by omega, h⟩, hk⟩
theorem has_put_any {B : Nat} {w : World} {p : Nat} {its : List (Int × Int)} {most last : Int} (h : Has B w p its most last) (id x : Int) (hsm : its.length ≤ 11728124029268) : Calls Try.prog 8 #[.pointer (some ⟨p, 0, none⟩), .int .i64 id, .int .i64 x] w fun e w' =>
    (∃ cd, e = .returned (.int .i64 cd)) ∧ (∃ its' last', its'.length ≤ its.length + 1 ∧ Has B w' p its' most last') ∧ Kp B w w' := by
  refine (has_put h id x hsm).mono ?_
  rintro e w' ⟨⟨rfl, _, _, h⟩ | ⟨_, rfl, h⟩ | ⟨_, _, rfl, h⟩, hk⟩
  · exact ⟨⟨_, rfl⟩, ⟨_, _, by simp, h⟩, hk⟩
  · exact ⟨⟨_, rfl⟩, ⟨_, _, by omega, h⟩, hk⟩
  · exact ⟨⟨_, rfl⟩, ⟨_, _, by omega, h⟩, hk⟩
theorem has_take_all {B : Nat} {w : World} {p : Nat} {its : List (Int × Int)} {most last : Int} (h : Has B w p its most last) (id : Int) : Calls Try.prog 12 #[.pointer (some ⟨p, 0, none⟩), .int .i64 id] w fun e w' =>
    (∃ y cd, e = .returned (.tuple #[.int .i64 y, .int .i64 cd])) ∧ (∃ its', its'.length ≤ its.length ∧ Has B w' p its' most last) ∧ Kp B w w' := by
  by_cases hj : ∃ j, j < its.length ∧ idAt its j = id
  · obtain ⟨j, hj, rfl⟩ := hj
    refine (has_take h j hj).mono ?_
    rintro e w' ⟨rfl, h', hk⟩
    exact ⟨⟨_, _, rfl⟩, ⟨_, by rw [List.length_eraseIdx, if_pos hj]; omega, h'⟩, hk⟩
  · refine (has_take_none h id (fun k hk e => hj ⟨k, hk, e⟩)).mono ?_
    rintro e w' ⟨rfl, q, rfl⟩
    exact ⟨⟨_, _, rfl⟩, ⟨_, Nat.le_refl _, h.drewN q⟩, Kp.drewN _ _ _⟩
theorem take_snoc (l : List (Int × Int)) (k : Nat) (h : k < l.length) (f : Int × Int → Int) : (l.take k).map f ++ [f (l.getD k (0, 0))] = (l.take (k + 1)).map f := by
  rw [take_succ_items l k h, List.map_append, List.map_singleton]

set_option maxRecDepth 100000 in
set_option maxHeartbeats 4000000 in
theorem queueTwo_any (most : Int) (u v : Value) (l m : List (Int × Int × Int)) (w : World) (hS : Steps w u l) (hl : l.length * 24 ≤ 140737488351232) (hT : Steps w v m) (hm : m.length * 24 ≤ 140737488351232) : Calls Try.prog 5 #[.int .i64 most, u, v] w fun e w' => e = .returned (.bool true) ∧ Below w.heap.size w w' := by
  have hA := Lib.hid (awake_any w)
  obtain ⟨ua, uc, rfl⟩ := hS.len
  obtain ⟨va, vc, rfl⟩ := hT.len
  replace hS := Lib.hid hS
  replace hT := Lib.hid hT
  by_cases hmo : most < 1
  · have hN := Lib.hid (fun W => new_low most hmo W)
    have hC := Lib.hid (fun W => copy_nil W)
    go_enter Try.func5, Try.ntmps5
    go_wp2_with fail
    refine hA.out.mono ?_
    rintro e w1 ⟨rfl, hB1⟩
    go_wp2_with fail
    refine (hN.out _).mono ?_
    rintro e w2 ⟨rfl, rfl⟩
    go_wp2_with fail
    refine (hC.out _).mono ?_
    rintro e w2 ⟨rfl, rfl⟩
    go_wp2_with fail
    go_ret
    exact ⟨rfl, hB1⟩
  have hN := Lib.hid (fun W => hasR_new most (by omega) W)
  replace hl := Lib.hid hl
  replace hm := Lib.hid hm
  replace hmo := Lib.hid hmo
  go_enter Try.func5, Try.ntmps5
  go_wp2_with fail
  refine hA.out.mono ?_
  rintro e w1 ⟨rfl, hB1⟩
  go_wp2_with fail
  refine (hN.out _).mono ?_
  rintro e w2 ⟨p, rfl, hH, hB2⟩
  have hB0 := Lib.hid (hB1.trans (hB2.mono hB1.size))
  have hs1 := Lib.hid hB1.size
  clear hB1 hB2 hA hN
  replace hH := Lib.hid hH
  generalize hw1 : w1.heap.size = N1 at *
  clear hw1
  go_wp2_with fail
  go_loopw [9] (fun v9 wr => ∃ (i : Nat) (its : List (Int × Int)) (last : Int), v9 = .int .i64 i ∧ Hid (i ≤ l.length ∧ its.length ≤ i) ∧ Hid (HasR N1 wr p its most last) ∧ Hid (Below w.heap.size w wr)) (fun v9 _ => l.length - (intOf v9).toNat)
  case atStart => exact ⟨0, [], -1, rfl, Lib.hid (by simp), hH, hB0⟩
  case round =>
    clear hH hB0
    obtain ⟨i, its, last, rfl, hb, hH, hB⟩ := hrel
    by_cases hi : i < l.length
    · obtain ⟨b, off, hua, s0, s1, s2⟩ := (hS.out.below hB.out).at i hi
      subst hua
      have hP := Lib.hid (fun q => hasR_put_any (hH.out.drewN q) (l.getD i (0, 0, 0)).2.1 (l.getD i (0, 0, 0)).2.2 (by have := hb.out; have := hl.out; omega))
      generalize (l.getD i (0, 0, 0)).1 = kd at *
      generalize (l.getD i (0, 0, 0)).2.1 = id at *
      generalize (l.getD i (0, 0, 0)).2.2 = x at *
      have hwi : IntKind.i64.wrap ((i : Int) + 1) = ((i + 1 : Nat) : Int) := by
        have := hl.out
        rw [IntWalk.i64_in _ (by omega)]; omega
      by_cases hkd : kd = 0
      · subst hkd
        go_wp2_with fail
        go_region_with (go_at_call 8; refine (hP.out _).mono ?_; rintro e w3 ⟨⟨cd, rfl⟩, hx⟩; replace hx := Lib.hid hx)
        all_goals
          obtain ⟨⟨its', last', hle, hH3⟩, hK⟩ := hx.out
          have hB3 := Lib.hid ((below_drawn hB.out _).trans (hK.low.mono hs1.out))
          replace hH3 := Lib.hid hH3
          replace hK := Lib.hid hK
          go_wp2_with fail
          refine ⟨⟨i + 1, its', last', by go_num, Lib.hid (by have := hb.out; omega), hH3, hB3⟩, ?_⟩
          simp [intOf]; omega
      · have tk : (kd == 0) = false := by simp; exact hkd
        go_wp2_with fail
        refine ⟨⟨i + 1, its, last, by go_num, Lib.hid (by have := hb.out; omega), hH, hB⟩, ?_⟩
        simp [intOf]; omega
    · obtain rfl : i = l.length := by have := hb.out; omega
      obtain ⟨wa, hwa⟩ : ∃ W : World, W = wr := ⟨wr, rfl⟩
      subst hwa
      have hC := Lib.hid (hasR_copy hH.out)
      go_wp2_with fail
      refine hC.out.mono ?_
      rintro e w3 ⟨pc, rfl, hHc, hB3⟩
      have hQ := Lib.hid hH.out.has
      have hlow := Lib.hid hB
      have hsz := hB.out.size
      have hst : Hid (St wa.heap.size wa w3 pc its most last (.slice none 0 0) ((its.take 0).map Prod.fst) (.slice none 0 0) ((its.take 0).map Prod.snd)) := Lib.hid ⟨hHc, World.ownsRow_nil _ _ _ _, World.ownsRow_nil _ _ _ _, .inl rfl, hB3, Nat.le_refl _⟩
      replace hHc := Lib.hid hHc
      replace hB3 := Lib.hid hB3
      replace hsz := Lib.hid hsz
      have hN0 := Lib.hid (show its.length ≤ 5864062014634 by have := hb.out; have := hl.out; omega)
      clear hH hB hb hi hC
      go_wp2_with fail
      go_loopw [11, 12, 13] (fun v11 v12 v13 wi => ∃ k : Nat, v13 = .int .i64 k ∧ Hid (k ≤ its.length) ∧ Hid (St wa.heap.size wa wi pc its most last v11 ((its.take k).map Prod.fst) v12 ((its.take k).map Prod.snd))) (fun _ _ v13 _ => its.length - (intOf v13).toNat)
      case atStart => exact ⟨0, rfl, Lib.hid (by omega), hst⟩
      case round =>
        clear hst hHc hB3
        obtain ⟨k, rfl, hk, hst⟩ := hrel
        have hLen := Lib.hid (has_len (hQ.out.below hst.out.low))
        by_cases hkl : k < its.length
        · have hAt := Lib.hid (has_at (hQ.out.below hst.out.low) k hkl)
          have hlt : ((its.take k).map Prod.fst).length = k := by simp; omega
          have hlt2 : ((its.take k).map Prod.snd).length = k := by simp; omega
          have hap := Lib.hid (fun q => (hst.out.drewN q).appI (its.getD k (0, 0)).1 (by rw [hlt]; have := hN0.out; omega) 35)
          have hf1 := Lib.hid (take_snoc its k hkl Prod.fst)
          have hf2 := Lib.hid (take_snoc its k hkl Prod.snd)
          generalize (its.getD k (0, 0)).1 = x0 at *
          generalize (its.getD k (0, 0)).2 = y0 at *
          have hwk : IntKind.i64.wrap ((k : Int) + 1) = ((k + 1 : Nat) : Int) := by
            have := hN0.out
            rw [IntWalk.i64_in _ (by omega)]; omega
          replace hlt := Lib.hid hlt
          replace hlt2 := Lib.hid hlt2
          go_wp2_with fail
          refine hLen.out.mono ?_
          rintro e w4 ⟨rfl, rfl⟩
          go_wp2_with fail
          refine hAt.out.mono ?_
          rintro e w4 ⟨rfl, q1, rfl⟩
          replace hap := Lib.hid (hap.out q1)
          go_wp2_with (first
            | (at_builtin; refine wpList_append_known _ rfl (.tmp 79) (.tmp 81) 35 rfl _ _ rfl rfl _ hap2.out ?_; rintro v8 w6 ⟨hst6, hkp6⟩; replace hst6 := Lib.hid hst6; replace hkp6 := Lib.hid hkp6)
            | (at_builtin; refine wpList_append_known _ rfl (.tmp 75) (.tmp 77) 35 rfl _ _ rfl rfl _ hap.out ?_; rintro v7 w5 ⟨hst5, hkp5⟩; have hap2 := Lib.hid (hst5.appT y0 (by rw [hlt2.out]; have := hN0.out; omega) 35); replace hst5 := Lib.hid hst5; replace hkp5 := Lib.hid hkp5))
          refine ⟨⟨k + 1, by go_num, Lib.hid (by omega), by have := hst6.out; rw [hf1.out, hf2.out] at this; exact Lib.hid this⟩, ?_⟩
          simp [intOf]; omega
        · obtain rfl : k = its.length := by have := hk.out; omega
          rw [List.take_length] at hst
          obtain ⟨a7, c7, rfl, hc7⟩ := own_slice hst.out.ids
          obtain ⟨a8, c8, rfl, hc8⟩ := own_slice hst.out.things
          rw [List.length_map] at hc7 hc8
          simp only [List.length_map] at hst ⊢
          go_wp2_with fail
          refine hLen.out.mono ?_
          rintro e w4 ⟨rfl, rfl⟩
          go_wp2_with fail
          clear hLen
          go_loopw [17] (fun v17 wj => ∃ (j : Nat) (itc : List (Int × Int)) (lac : Int), v17 = .int .i64 j ∧ Hid (j ≤ m.length ∧ itc.length ≤ its.length + j) ∧ Hid (St wa.heap.size wa wj pc itc most lac (.slice a7 its.length c7) (its.map Prod.fst) (.slice a8 its.length c8) (its.map Prod.snd))) (fun v17 _ => m.length - (intOf v17).toNat)
          case atStart => exact ⟨0, its, last, rfl, Lib.hid (by omega), hst⟩
          case round =>
            clear hst hc7 hc8
            obtain ⟨j, itc, lac, rfl, hb, hst⟩ := hrel
            by_cases hj : j < m.length
            · have hlo2 := fun W (h : Below wa.heap.size wa W) => (hT.out.below (hlow.out.trans (h.mono hlow.out.size))).at j hj
              obtain ⟨b, off, hva, s0, s1, s2⟩ := hlo2 wr hst.out.low
              subst hva
              have hP := Lib.hid (fun q => has_put_any (hst.out.has.drewN q) (m.getD j (0, 0, 0)).2.1 (m.getD j (0, 0, 0)).2.2 (by have := hb.out; have := hm.out; have := hN0.out; omega))
              have hTk := Lib.hid (has_take_all hst.out.has (m.getD j (0, 0, 0)).2.1)
              generalize (m.getD j (0, 0, 0)).1 = kd at *
              generalize (m.getD j (0, 0, 0)).2.1 = id at *
              generalize (m.getD j (0, 0, 0)).2.2 = x at *
              have hwj : IntKind.i64.wrap ((j : Int) + 1) = ((j + 1 : Nat) : Int) := by
                have := hm.out
                rw [IntWalk.i64_in _ (by omega)]; omega
              replace hlo2 := Lib.hid hlo2
              by_cases hkd : kd = 0
              · subst hkd
                go_wp2_with fail
                go_region_with (go_at_call 8; refine (hP.out _).mono ?_; rintro e w3 ⟨⟨cd, rfl⟩, hx⟩; replace hx := Lib.hid hx)
                all_goals
                  obtain ⟨⟨its', last', hle, hH3⟩, hK⟩ := hx.out
                  have hst3 := Lib.hid ((hst.out.drewN 1).move hK hH3)
                  obtain ⟨b', off', hva', z0, z1, z2⟩ := hlo2.out w3 hst3.out.low
                  cases hva'
                  replace hH3 := Lib.hid hH3
                  replace hK := Lib.hid hK
                  go_wp2_with fail
                  refine ⟨⟨j + 1, its', last', by go_num, Lib.hid (by have := hb.out; omega), hst3⟩, ?_⟩
                  simp [intOf]; omega
              · by_cases hkd1 : kd = 1
                · subst hkd1
                  go_wp2_with fail
                  refine hTk.out.mono ?_
                  rintro e w3 ⟨⟨cy, cd, rfl⟩, ⟨its', hle, hH3⟩, hK⟩
                  have hst3 := Lib.hid (hst.out.move hK hH3)
                  replace hH3 := Lib.hid hH3
                  replace hK := Lib.hid hK
                  go_wp2_with fail
                  refine ⟨⟨j + 1, its', lac, by go_num, Lib.hid (by have := hb.out; omega), hst3⟩, ?_⟩
                  simp [intOf]; omega
                · have tk : (kd == 0) = false := by simp; exact hkd
                  have tk1 : (kd == 1) = false := by simp; exact hkd1
                  go_wp2_with fail
                  refine ⟨⟨j + 1, itc, lac, by go_num, Lib.hid (by have := hb.out; omega), hst⟩, ?_⟩
                  simp [intOf]; omega
            · obtain rfl : j = m.length := by have := hb.out; omega
              have hLen := Lib.hid (has_len (hQ.out.below hst.out.low))
              have t1 : ((its.length : Int) == (its.length : Int)) = true := beq_self_eq_true _
              go_wp2_with fail
              refine hLen.out.mono ?_
              rintro e w4 ⟨rfl, rfl⟩
              have hcells : ∀ k, k < its.length → ∃ g7 g8, a7 = some ⟨g7, 0, none⟩ ∧ a8 = some ⟨g8, 0, none⟩ ∧ w4.cell? ⟨g7, k, none⟩ = some (.int .i64 (its.getD k (0, 0)).1) ∧ w4.cell? ⟨g8, k, none⟩ = some (.int .i64 (its.getD k (0, 0)).2) := fun k hk => by
                have ho1 := hst.out.ids
                have ho2 := hst.out.things
                obtain ⟨g7, f7, e1, _, _⟩ := own_some ho1 (by rw [List.length_map]; omega)
                obtain ⟨g8, f8, e2, _, _⟩ := own_some ho2 (by rw [List.length_map]; omega)
                rw [List.length_map] at e1 e2
                cases e1
                cases e2
                have h1 := own_cell ho1 k (by rw [List.length_map]; exact hk)
                have h2 := own_cell ho2 k (by rw [List.length_map]; exact hk)
                rw [show (its.map Prod.fst).getD k 0 = (its.getD k (0, 0)).1 by simp [List.getD, hk]] at h1
                rw [show (its.map Prod.snd).getD k 0 = (its.getD k (0, 0)).2 by simp [List.getD, hk]] at h2
                exact ⟨g7, g8, rfl, rfl, h1, h2⟩
              replace hcells := Lib.hid hcells
              have hend := Lib.hid (hlow.out.trans (hst.out.low.mono hlow.out.size))
              have hQ2 := Lib.hid (hQ.out.below hst.out.low)
              go_wp2_with fail
              go_loopw [18] (fun v18 wi => ∃ k q : Nat, v18 = .int .i64 k ∧ Hid (k ≤ its.length) ∧ wi = w4.drewN q) (fun v18 _ => its.length - (intOf v18).toNat)
              case atStart => exact ⟨0, 0, rfl, Lib.hid (by omega), rfl⟩
              case round =>
                obtain ⟨k, q, rfl, hk, rfl⟩ := hrel
                by_cases hkl : k < its.length
                · obtain ⟨g7, g8, rfl, rfl, cA, cB⟩ := hcells.out k hkl
                  have hAt := Lib.hid (has_at (hQ2.out.drewN q) k hkl)
                  generalize (its.getD k (0, 0)).1 = x0 at *
                  generalize (its.getD k (0, 0)).2 = y0 at *
                  have hwk : IntKind.i64.wrap ((k : Int) + 1) = ((k + 1 : Nat) : Int) := by
                    have := hN0.out
                    rw [IntWalk.i64_in _ (by omega)]; omega
                  have t3 : (x0 == x0) = true := beq_self_eq_true _
                  have t4 : (y0 == y0) = true := beq_self_eq_true _
                  go_wp2_with fail
                  refine hAt.out.mono ?_
                  rintro e w5 ⟨rfl, q1, rfl⟩
                  go_wp2_with fail
                  refine ⟨⟨k + 1, q + q1, by go_num, Lib.hid (by omega), rfl⟩, ?_⟩
                  simp [intOf]; omega
                · obtain rfl : k = its.length := by have := hk.out; omega
                  go_wp2_with fail
                  go_ret
                  exact ⟨rfl, below_drawn hend.out q⟩
end Go.Proofs.Ytfggmnnpcbgmaaa
