/- The queue's Put: what it refuses. -/
import Derived.Test.YtcekipbjimbinaaGrow
namespace Go.Proofs.Ytcekipbjimbinaa
open Go.RowKit Go.Shelf
variable {P : Pl}

theorem put_low {B : Nat} {w : World} {p : Nat} {rv : Value} {rs : List (Int × Int)} {fr n : Nat} {most last : Int} (h : Que P B w p rv rs fr n most last) (id x : Int) (hid : id ≤ last) :
    Calls Try.prog 15 #[.pointer (some ⟨p, 0, none⟩), .int .i64 id, .slice (P.A x) (P.L x) (P.C x)] w fun e w' => e = .returned (.int .i64 2) ∧ w' = w := by
  obtain ⟨c0, c1, c2, c3, c4⟩ := h.cells
  have t1 : decide (id ≤ last) = true := by simp [hid]
  replace h := Lib.hid h
  go_enter Try.func15, Try.ntmps15
  go_wp2_with fail
  go_ret
  exact ⟨rfl, rfl⟩
theorem put_full {B : Nat} {w : World} {p : Nat} {rv : Value} {rs : List (Int × Int)} {fr n : Nat} {last : Int} (h : Que P B w p rv rs fr n (n : Int) last) (id x : Int) (hid : last < id) :
    Calls Try.prog 15 #[.pointer (some ⟨p, 0, none⟩), .int .i64 id, .slice (P.A x) (P.L x) (P.C x)] w fun e w' => e = .returned (.int .i64 120) ∧ ∃ q, w' = w.drewN q := by
  obtain ⟨c0, c1, c2, c3, c4⟩ := h.cells
  have t1 : decide (id ≤ last) = false := by simp; omega
  have t2 : ((n : Int) == (n : Int)) = true := by simp
  replace h := Lib.hid h
  go_enter Try.func15, Try.ntmps15
  go_wp2_with fail
  go_quiet (fail)
  go_wp2_with fail
  go_ret
  exact ⟨rfl, _, rfl⟩
theorem Que.apart {B : Nat} {w : World} {p : Nat} {rv : Value} {rs : List (Int × Int)} {fr n : Nat} {most last : Int} (h : Que P B w p rv rs fr n most last) : rv.ownBlock ≠ some p := by
  rcases h.own.2 with ⟨e, _⟩ | ⟨g, c, cur, e, _, hg, _⟩
  · rw [e]; simp [Value.ownBlock]
  · rw [e]
    intro e2
    have e3 : g = p := by simpa [Value.ownBlock] using e2
    have := h.blk.eq
    rw [← e3, hg] at this
    simp at this
theorem Que.lastSet {B : Nat} {w : World} {p : Nat} {rv : Value} {rs : List (Int × Int)} {fr n : Nat} {most last : Int} (h : Que P B w p rv rs fr n most last) (id : Int) :
    Que P B (w.setCell ⟨p, 4, none⟩ (.int .i64 id)) p rv rs fr n most id := ⟨h.blk.set 4 _, ownsRow_setCell_other h.own h.apart _, h.lo, h.fits, h.small, h.most1⟩
/-- A queue whose count is one more. -/
theorem Que.bump {B : Nat} {w : World} {p : Nat} {rv : Value} {rs : List (Int × Int)} {fr n : Nat} {most last : Int} (h : Que P B w p rv rs fr n most last) (hn : n < rs.length) (hm : (n : Int) < most) :
    Que P B (w.setCell ⟨p, 2, none⟩ (.int .i64 ((n + 1 : Nat) : Int))) p rv rs fr (n + 1) most last := by
  refine ⟨h.blk.set 2 _, ?_, h.lo, ?_, h.small, by omega⟩
  · exact ownsRow_setCell_other h.own h.apart _
  · rcases h.fits with ⟨h1, h2⟩ | ⟨h1, h2, h3⟩
    · exact .inl ⟨h1, hn⟩
    · rw [h3] at hn; exact absurd hn (by simp)
/-- Only old blocks count. -/
theorem Only.fresh {S : Nat → Prop} {a b c : World} (h : Only S a b) (h' : Only (fun k => S k ∨ a.heap.size ≤ k) b c) : Only S a c :=
  ⟨h.low.trans h'.low, fun k hk hs => (h'.same k (Nat.lt_of_lt_of_le hk h.low.size) (fun e => e.elim hs (fun e => by omega))).trans (h.same k hk hs)⟩
/-- What is in when one is put behind. -/
theorem put_items {rs : List (Int × Int)} {fr n : Nat} (x : Int × Int) (hf : fr < rs.length) (hn : n < rs.length) :
    items (rs.set ((fr + n) % rs.length) x) fr (n + 1) = items rs fr n ++ [x] := by
  have hk : (fr + n) % rs.length < rs.length := Nat.mod_lt _ (by omega)
  refine list_pairs (by rw [items_length, List.length_append, items_length]; rfl) fun i hi => ?_
  rw [items_length] at hi
  rw [items_at _ _ _ _ hi, List.length_set, getD_set _ _ _ _ hk]
  by_cases e : i = n
  · subst e
    rw [if_pos rfl]
    simp [List.getD, items_length]
  · rw [if_neg (fun e2 => e (mod_inj hf (by omega) hn e2))]
    have hl : i < (items rs fr n).length := by rw [items_length]; omega
    have := items_at rs fr n i (by omega)
    rw [← this]
    simp [List.getD, List.getElem?_append_left hl]
theorem put_room {B : Nat} {w : World} {p : Nat} {rv : Value} {rs : List (Int × Int)} {fr n : Nat} {most last : Int} (h : Que P B w p rv rs fr n most last) (id x : Int) (hid : last < id) (hn : n < rs.length) (hm : (n : Int) < most) :
    Calls Try.prog 15 #[.pointer (some ⟨p, 0, none⟩), .int .i64 id, .slice (P.A x) (P.L x) (P.C x)] w fun e w' => e = .returned (.int .i64 0) ∧ ∃ rs', Que P B w' p rv rs' fr (n + 1) most id ∧ items rs' fr (n + 1) = items rs fr n ++ [(id, x)] ∧ rs'.length = rs.length ∧ Only (fun k => k = p ∨ rv.ownBlock = some k) w w' := by
  obtain ⟨c0, c1, c2, c3, c4⟩ := h.cells
  have t1 : decide (id ≤ last) = false := by simp; omega
  have t2 : ((n : Int) == most) = false := by rw [beq_eq_false_iff_ne]; omega
  have t3 : ((n : Int) == (rs.length : Int)) = false := by rw [beq_eq_false_iff_ne]; omega
  obtain ⟨g, c, hv, hf⟩ : ∃ g c, rv = .slice (some ⟨g, 0, none⟩) rs.length c ∧ fr < rs.length := by
    have hf : fr < rs.length := by
      rcases h.fits with ⟨h1, _⟩ | ⟨_, _, h3⟩
      · exact h1
      · rw [h3] at hn; exact absurd hn (by simp)
    rcases h.own.2 with ⟨_, h0⟩ | ⟨g, c, cur, e, _⟩
    · omega
    · exact ⟨g, c, e, hf⟩
  rw [hv] at c0
  have hL := h.small
  have f2 := h.blk.free 2
  have hw1 : IntKind.i64.wrap ((n : Int) + 1) = ((n + 1 : Nat) : Int) := by
    rw [IntWalk.i64_in _ (by omega)]; omega
  have hw2 : IntKind.i64.wrap (((n + 1 : Nat) : Int) - 1) = (n : Int) := by
    rw [IntWalk.i64_in _ (by omega)]; omega
  have hb := fun q => (h.drewN q).bump hn hm
  have hk : (fr + n) % rs.length < rs.length := Nat.mod_lt _ (by omega)
  have hat := Lib.hid (fun q => qat_any (hb q) hv hf n hn _ rfl)
  have hgp := (h.gp hv (by omega)).1
  have hcel := fun q => ((hb q).gp hv (by omega)).2.1 _ hk
  have hfz := fun q => ((hb q).gp hv (by omega)).2.2
  have hput := Lib.hid (fun q q2 => (((hb q).drewN q2).put hv hgp ((fr + n) % rs.length) id x))
  have hits := Lib.hid (put_items (rs := rs) (fr := fr) (id, x) hf hn)
  have hgS : rv.ownBlock = some g := by rw [hv]; rfl
  have hq := Lib.hid h
  replace hb := Lib.hid hb
  replace hcel := Lib.hid hcel
  replace hfz := Lib.hid hfz
  clear h
  generalize hkk : (fr + n) % rs.length = k at *
  go_enter Try.func15, Try.ntmps15
  go_wp2_with fail
  go_quiet (fail)
  go_wp2_with fail
  go_quiet (fail)
  go_wp2_with fail
  refine (hat.out _).mono ?_
  rintro e w2 ⟨rfl, q2, rfl⟩
  rename_i nq2 _ _ _ _
  have hQ := hput.out (nq2 + nq) q2
  have hO := (((Only.drewN (fun k => k = p ∨ rv.ownBlock = some k) w (nq2 + nq)).trans (Only.setCell _ ⟨p, 2, none⟩ (.int .i64 ((n + 1 : Nat) : Int)) (.inl rfl))).trans (Only.drewN _ _ q2))
  have d1 := (hcel.out (nq2 + nq)).1
  have d2 := (hcel.out (nq2 + nq)).2
  have g1 := hfz.out (nq2 + nq) (k * 2)
  have g2 := hfz.out (nq2 + nq) (k * 2 + 1)
  have d4 := ((hb.out (nq2 + nq)).cells).2.2.2.2
  have g4 := (hb.out (nq2 + nq)).blk.free 4
  have hfin := hQ.lastSet id
  replace hO := ((hO.trans (Only.setCell _ ⟨g, k * 2, none⟩ (.int .i64 id) (.inr hgS))).trans (Only.setCell _ ⟨g, k * 2 + 1, none⟩ (.slice (P.A x) (P.L x) (P.C x)) (.inr hgS))).trans (Only.setCell _ ⟨p, 4, none⟩ (.int .i64 id) (.inl rfl))
  replace hfin := Lib.hid hfin
  replace hQ := Lib.hid hQ
  replace hO := Lib.hid hO
  clear hput hcel hfz hat hb hkk
  clear c0 c1 c2 c3 c4 f2
  generalize ((w.drewN (nq2 + nq)).setCell ⟨p, 2, none⟩ (.int .i64 ((n + 1 : Nat) : Int))) = w1 at *
  go_wp2_with fail
  go_ret
  exact ⟨rfl, _, hfin.out, hits.out, List.length_set, hO.out⟩
set_option maxHeartbeats 1000000 in
theorem put_grow {B : Nat} {w : World} {p : Nat} {rv : Value} {rs : List (Int × Int)} {fr n : Nat} {most last : Int} (h : Que P B w p rv rs fr n most last) (id x : Int) (hid : last < id) (hn : n = rs.length) (hm : (n : Int) < most) (hsm : 2 * n + 2 ≤ 8796093022208) :
    Calls Try.prog 15 #[.pointer (some ⟨p, 0, none⟩), .int .i64 id, .slice (P.A x) (P.L x) (P.C x)] w fun e w' => e = .returned (.int .i64 0) ∧ ∃ rv' rs', Que P B w' p rv' rs' 0 (n + 1) most id ∧ items rs' 0 (n + 1) = items rs fr n ++ [(id, x)] ∧ ((rs'.length = 2 * n + 2 ∨ (rs'.length : Int) = most) ∧ rs'.length ≤ 2 * n + 2) ∧ (∀ k, rv'.ownBlock = some k → w.heap.size ≤ k) ∧ Only (fun k => k = p) w w' := by
  obtain ⟨c0, c1, c2, c3, c4⟩ := h.cells
  have t1 : decide (id ≤ last) = false := by simp; omega
  have t2 : ((n : Int) == most) = false := by rw [beq_eq_false_iff_ne]; omega
  have t3 : ((n : Int) == (rs.length : Int)) = true := by rw [hn]; exact beq_self_eq_true _
  have hB : B ≤ w.heap.size := Nat.le_trans h.lo (Nat.le_of_lt h.blk.lt)
  obtain ⟨c, hv⟩ : ∃ a c, rv = .slice a rs.length c := by
    rcases h.own.2 with ⟨e, h0⟩ | ⟨g, c, cur, e, _⟩
    · exact ⟨none, 0, by rw [e, h0]⟩
    · exact ⟨_, c, e⟩
  obtain ⟨c', hv⟩ := hv
  rw [hv] at c0
  have hG := Lib.hid (fun q => callsIn_wide.1 (grow_in 4 (Nat.le_refl _) (h.drewN q) hm hsm hB))
  have hsm2 := Lib.hid hsm
  have hm2 := Lib.hid hm
  clear h hsm hm hB
  go_enter Try.func15, Try.ntmps15
  go_wp2_with fail
  go_quiet (fail)
  go_wp2_with fail
  go_quiet (fail)
  go_wp2_with fail
  refine (hG.out _).mono ?_
  rintro e wg ⟨⟨v, rfl⟩, g, m, hnm, hm2n, hmo, hgw, hQ, hO⟩
  have hsm := hsm2.out
  have hm := hm2.out
  have hits0 : (items rs fr n).length = n := items_length _ _ _
  have hfl := fill_length m (items rs fr n) (by omega)
  have hitf := items_fill (items rs fr n) m (by omega)
  rw [hits0] at hitf
  replace hO := (Only.drewN (fun k => k = p) w _).trans hO
  clear hG c0 c1 c2 c3 c4 t1 t2 t3 hsm2 hm2
  generalize fill m (items rs fr n) = rs2 at *
  obtain rfl := hfl
  have hlen : ((rs2.set ((0 + n) % rs2.length) (id, x)).length = 2 * n + 2 ∨ (((rs2.set ((0 + n) % rs2.length) (id, x)).length : Nat) : Int) = most) ∧ (rs2.set ((0 + n) % rs2.length) (id, x)).length ≤ 2 * n + 2 := by rw [List.length_set]; exact ⟨hmo, hm2n⟩
  replace hlen := Lib.hid hlen
  clear hmo
  have f2 := hQ.blk.free 2
  have c2 := hQ.cells.2.2.1
  have hv2 : (Value.slice (some ⟨g, 0, none⟩) rs2.length rs2.length) = .slice (some ⟨g, 0, none⟩) rs2.length rs2.length := rfl
  have hw1 : IntKind.i64.wrap ((n : Int) + 1) = (n : Int) + 1 := IntWalk.i64_in _ (by omega)
  have hw2 : IntKind.i64.wrap (n : Int) = (n : Int) := IntWalk.i64_in _ (by omega)
  have hb := hQ.bump hnm hm
  rw [show ((n + 1 : Nat) : Int) = (n : Int) + 1 by omega] at hb
  have hk : (0 + n) % rs2.length < rs2.length := Nat.mod_lt _ (by omega)
  have hat := Lib.hid (qat_any hb hv2 (by omega) n hnm _ rfl)
  have hgp := (hQ.gp hv2 (by omega)).1
  have d12 := (hb.gp hv2 (by omega)).2.1 _ hk
  have hfz := (hb.gp hv2 (by omega)).2.2
  have hput := Lib.hid (fun q2 => ((hb.drewN q2).put hv2 hgp ((0 + n) % rs2.length) id x))
  have hits := put_items (rs := rs2) (fr := 0) (id, x) (by omega) hnm
  rw [hitf] at hits
  replace hits := Lib.hid hits
  have hgw2 : w.heap.size ≤ g := hgw
  clear hsm hm hits0 hitf hgw hm2n hnm hn hid hv
  generalize hkk : (0 + n) % rs2.length = k at *
  have d1 := d12.1
  have d2 := d12.2
  have d4 := hb.cells.2.2.2.2
  have g1 := hfz (k * 2)
  have g2 := hfz (k * 2 + 1)
  have g4 := hb.blk.free 4
  replace hQ := Lib.hid hQ
  replace hb := Lib.hid hb
  replace hO := Lib.hid hO
  clear hfz hkk d12
  go_wp2_with fail
  refine hat.out.mono ?_
  rintro e w2 ⟨rfl, q2, rfl⟩
  have hQ3 := hput.out q2
  have hfin := hQ3.lastSet id
  have hO2 : Only (fun k => k = p ∨ w.heap.size ≤ k) wg (wg.setCell ⟨p, 2, none⟩ (.int .i64 ((n : Int) + 1))) := Only.setCell _ _ _ (.inl rfl)
  replace hO2 := hO2.trans (Only.drewN _ _ q2)
  replace hO2 := hO2.trans (Only.setCell _ ⟨g, k * 2, none⟩ (.int .i64 id) (.inr hgw2))
  replace hO2 := hO2.trans (Only.setCell _ ⟨g, k * 2 + 1, none⟩ (.slice (P.A x) (P.L x) (P.C x)) (.inr hgw2))
  replace hO2 := hO2.trans (Only.setCell _ ⟨p, 4, none⟩ (.int .i64 id) (.inl rfl))
  have hO3 := hO.out.fresh hO2
  clear hO2
  replace hfin := Lib.hid hfin
  replace hO3 := Lib.hid hO3
  clear hQ3 hput hat hb f2 c2 hO hQ
  generalize (wg.setCell ⟨p, 2, none⟩ (.int .i64 ((n : Int) + 1))) = w1 at *
  go_wp2_with fail
  go_ret
  exact ⟨rfl, _, _, hfin.out, hits.out, hlen.out, (fun k e => (show g = k by simpa [Value.ownBlock] using e) ▸ hgw2), hO3.out⟩
end Go.Proofs.Ytcekipbjimbinaa
