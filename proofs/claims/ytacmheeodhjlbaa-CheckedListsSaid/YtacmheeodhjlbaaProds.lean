/- The reference's Product. -/
import Derived.Test.YtacmheeodhjlbaaSums
namespace Go.Proofs.Ytacmheeodhjlbaa
open Go.RowKit Go.WideShapes

theorem prod_out {l : List Int} (h0 : ¬ (0 : Int) ∈ l) (i : Nat) (h : 40 < (digs (prodZ (l.take i)).natAbs).length) : ¬ InR (prodZ l) := fun hin => by
  have h1 := (digs_lt _ 40).1 h
  have h2 := prodZ_le h0 i
  have h3 := natAbs_lt hin
  have h4 : (prodZ (l.take i)).natAbs / 10 ^ 40 = 0 := Nat.div_eq_of_lt (by omega)
  omega
theorem prod_len {z a : Int} (hz : (digs z.natAbs).length ≤ 40) (ha : InR a) : (digs (z * a).natAbs).length ≤ 60 := by
  have h1 := digs_top z.natAbs
  have h2 : z.natAbs < 10 ^ 40 := Nat.lt_of_lt_of_le h1 (Nat.pow_le_pow_right (by omega) hz)
  have h3 := natAbs_lt ha
  refine digs_len ?_
  rw [Int.natAbs_mul]
  exact Nat.lt_of_le_of_lt (Nat.mul_le_mul (Nat.le_of_lt h2) h3) (by omega)
set_option maxRecDepth 100000 in
set_option maxHeartbeats 8000000 in
theorem refProduct_any (l : List Int) (v : Value) (w : World) (hv : IntsAt w v l) (hl : ∀ x ∈ l, InR x) (hn : l.length ≤ 17592186044416) : Calls Try.prog 27 #[v] w fun e w' => e = .returned (told (prodZ l)) ∧ Below w.heap.size w w' := by
  have hCell : ∀ i, i < l.length → ∀ wr, Below w.heap.size w wr → ∃ g off c, v = .slice (some ⟨g, off, none⟩) l.length c ∧ wr.cell? ⟨g, off + i, none⟩ = some (.int .i64 (l.getD i 0)) := fun i hi wr hB => by
    obtain ⟨aa, ac, rfl⟩ := hv.len
    obtain ⟨g, off, rfl, hc⟩ := (hv.below hB).at (by omega)
    exact ⟨g, off, ac, rfl, hc i hi⟩
  obtain ⟨va, vc, rfl⟩ := hv.len
  replace hCell := Lib.hid hCell
  clear hv
  have hO := Lib.hid (fun a (ha : InR a) w => of_any a ha w)
  have hA := Lib.hid (fun x y h1 h2 u v w h3 h4 => num_mul_any x y h1 h2 u v w h3 h4)
  have hI := Lib.hid (fun v w (hb : (digs (prodZ l).natAbs).length ≤ 100000) (h : NumAt w v (prodZ l)) => num_int_any (prodZ l) hb v w h)
  have hzero := Lib.hid (fun h => (congrArg told (prodZ_zero (l := l) h)).trans (told_in (by unfold InR; omega)))
  have hout := Lib.hid (fun h0 i h => told_out (prod_out (l := l) h0 i h))
  have h1in : Hid (InR 1) := Lib.hid (by unfold InR; omega)
  replace hl := Lib.hid hl
  go_enter Try.func27, Try.ntmps27
  go_wp2_with fail
  go_loopw [4] (fun v4 wr => ∃ i : Nat, v4 = .int .i64 i ∧ i ≤ l.length ∧ Hid (∀ k, k < i → l.getD k 0 ≠ 0) ∧ w = wr) (fun v4 _ => l.length - (intOf v4).toNat)
  case atStart => exact ⟨0, rfl, by omega, Lib.hid (fun k hk => by omega), rfl⟩
  case round =>
    obtain ⟨i, rfl, hi, hz, rfl⟩ := hrel
    by_cases hlt : i < l.length
    · obtain ⟨g, off, vc', e, hx⟩ := hCell.out i hlt w (Below.refl _ _)
      cases e
      have hm := Lib.hid (getD_mem l i hlt)
      generalize hga : l.getD i 0 = a at *
      replace hga := Lib.hid hga
      by_cases h0 : a = 0
      · subst h0
        have hz0 := Lib.hid (hzero.out hm.out)
        go_wp2_with fail
        go_ret2
        rw [hz0.out]
        exact ⟨rfl, Below.refl _ _⟩
      · have t0 : (a == 0) = false := by rw [beq_eq_false_iff_ne]; exact h0
        replace h0 := Lib.hid h0
        go_wp2_with fail
        refine ⟨⟨i + 1, by go_num, by omega, Lib.hid (fun k hk => ?_), trivial⟩, ?_⟩
        · rcases Nat.lt_or_ge k i with h | h
          · exact hz.out k h
          · obtain rfl : k = i := by omega
            rw [hga.out]; exact h0.out
        · simp only [intOf]; omega
    · obtain rfl : i = l.length := by omega
      have hno : Hid (¬ (0 : Int) ∈ l) := Lib.hid (fun h => by
        obtain ⟨k, hk, e⟩ := List.getElem_of_mem h
        exact hz.out k hk (by simp [hk, e]))
      clear hz
      go_wp2_with fail
      refine (hO.out 1 h1in.out _).mono ?_
      rintro e w1 ⟨u1, rfl, n1, b1⟩
      obtain ⟨s1, rfl, hs1, hf1⟩ := n1
      obtain ⟨sa1, sc1, hss⟩ := hs1.len
      subst hss
      replace hs1 := Lib.hid hs1
      replace b1 := Lib.hid b1
      clear hf1
      go_wp2_with fail
      have hp : Hid (w.heap.size ≤ w1.heap.size) := Lib.hid b1.out.size
      have hst : ∃ (s : Value) (z : Int), s = .slice sa1 (digs 1).length sc1 ∧ z = 1 := ⟨_, _, rfl, rfl⟩
      generalize hpp : w1.heap.size = p at *
      go_loopw [6] (fun v6 wr => ∃ (i : Nat) (z : Int) (s : Value), v6 = .int .i64 i ∧ i ≤ l.length ∧ Hid (z = prodZ (l.take i)) ∧ Hid ((digs z.natAbs).length ≤ 40) ∧ Hid (Blk wr p #[.bool (decide (z < 0)), s] 39) ∧ Hid (IntsAt wr s (digs z.natAbs)) ∧ Hid (Below w.heap.size w wr) ∧ p + 1 ≤ wr.heap.size) (fun v6 _ => l.length - (intOf v6).toNat)
      case atStart =>
        refine ⟨0, 1, _, rfl, by omega, Lib.hid rfl, Lib.hid (digs_len (by omega)), Lib.hid ?_, Lib.hid (hs1.out.below ((Below.refl _ _).alloc (Nat.le_refl _) _)), Lib.hid (b1.out.alloc (by have := hp.out; omega) _), by simp; omega⟩
        rw [← hpp]
        exact Blk.new _ _ _
      case round =>
        clear hst hs1 b1 hpp
        obtain ⟨i, z, s, rfl, hi, hz, hz40, hb, hs, hB, hsz⟩ := hrel
        have c0 : wr.cell? ⟨p, 0, none⟩ = some (.bool (decide (z < 0))) := hb.out.cell rfl
        have c1 : wr.cell? ⟨p, 1, none⟩ = some s := hb.out.cell rfl
        have f0 := hb.out.free 0
        have f1 := hb.out.free 1
        obtain ⟨sa, sc, hss⟩ := hs.out.len
        subst hss
        by_cases hlt : i < l.length
        · have hin := hl.out _ (getD_mem l i hlt)
          obtain ⟨g, off, vc', e, hx⟩ := hCell.out i hlt wr hB.out
          cases e
          have hst := prodZ_take l i hlt
          rw [← hz.out] at hst
          generalize l.getD i 0 = a at *
          have hal := Lib.hid (Nat.le_trans (small_len hin) (show 20 ≤ 1000 by omega))
          have hzl := Lib.hid (Nat.le_trans hz40.out (show 40 ≤ 1000 by omega))
          have hl60 := Lib.hid (prod_len hz40.out hin)
          replace hst := Lib.hid hst
          have hi0 : (0 : Int) ≤ (i : Int) := by omega
          have hi1 : (i : Int) < (l.length : Int) := by omega
          go_wp2_with fail
          go_region_law (first | (go_simp; go_at_call 30; refine (hO.out a hin _).mono ?_; rintro e w2 ⟨u2, rfl, n2, b2⟩; (obtain ⟨s2, rfl, hs2, _⟩ := n2); (have hb2 := Lib.hid ((show Blk wr.drew p _ _ from hb.out).below b2 hb.out.lt)); (have d0 : w2.cell? ⟨p, 0, none⟩ = some (.bool (decide (z < 0))) := hb2.out.cell rfl); (have d1 : w2.cell? ⟨p, 1, none⟩ = some (.slice sa (digs z.natAbs).length sc) := hb2.out.cell rfl)) | (go_simp; go_at_call 37; refine (hA.out z a hzl.out hal.out _ _ _ ⟨_, rfl, (show IntsAt wr.drew _ _ from hs.out).below b2⟩ ⟨_, rfl, hs2⟩).mono ?_; rintro e w3 ⟨u3, rfl, n3, b3⟩; (obtain ⟨s3, rfl, hs3, hf3⟩ := n3); (obtain ⟨sa3, sc3, hss3⟩ := hs3.len); subst hss3; (have hb3 := Lib.hid (hb2.out.below b3 (by have := hb2.out.lt; exact this))); (have e0 : w3.cell? ⟨p, 0, none⟩ = some (.bool (decide (z < 0))) := hb3.out.cell rfl); (have e1 : w3.cell? ⟨p, 1, none⟩ = some (.slice sa (digs z.natAbs).length sc) := hb3.out.cell rfl); (have g0 := hb3.out.free 0); (have g1 := hb3.out.free 1)))
          all_goals
            have hpW := hp.out
            have hs4 := b2.size
            have hs5 := b3.size
            have hs6 : wr.drew.heap.size = wr.heap.size := rfl
            have hB3 := Lib.hid ((hB.out.drew.trans (b2.mono (show w.heap.size ≤ wr.heap.size by omega))).trans (b3.mono (show w.heap.size ≤ w2.heap.size by omega)))
            have hlt3 : p < w2.heap.size := by omega
            have hb4 : Hid (Blk ((w3.setCell ⟨p, 0, none⟩ (.bool (decide (z * a < 0)))).setCell ⟨p, 1, none⟩ (.slice sa3 (digs (z * a).natAbs).length sc3)) p #[.bool (decide (z * a < 0)), .slice sa3 (digs (z * a).natAbs).length sc3] 39) := Lib.hid ((hb3.out.set 0 _).set 1 _)
            have hs7 := Lib.hid ((hs3.setCell hf3 (p := ⟨p, 0, none⟩) hlt3 (.bool (decide (z * a < 0)))).setCell hf3 (p := ⟨p, 1, none⟩) hlt3 (.slice sa3 (digs (z * a).natAbs).length sc3))
            have hB4 := Lib.hid ((hB3.out.setCell (p := ⟨p, 0, none⟩) hpW (.bool (decide (z * a < 0)))).setCell (p := ⟨p, 1, none⟩) hpW (.slice sa3 (digs (z * a).natAbs).length sc3))
            have hz4 : p + 1 ≤ ((w3.setCell ⟨p, 0, none⟩ (.bool (decide (z * a < 0)))).setCell ⟨p, 1, none⟩ (.slice sa3 (digs (z * a).natAbs).length sc3)).heap.size := by simp [World.setCell]; omega
            clear b2 b3 hs2 d0 d1 c0 c1 f0 f1 e0 e1 g0 g1 hx hs3 hf3 hb3 hB3 hs4 hs5 hs6 hlt3 hb2
            generalize (w3.setCell ⟨p, 0, none⟩ (.bool (decide (z * a < 0)))).setCell ⟨p, 1, none⟩ (.slice sa3 (digs (z * a).natAbs).length sc3) = W4 at *
            have c1 : W4.cell? ⟨p, 1, none⟩ = some (.slice sa3 (digs (z * a).natAbs).length sc3) := hb4.out.cell rfl
            generalize hm : (digs (z * a).natAbs).length = m at *
            have hm60 := hl60.out
            by_cases hm40 : 40 < m
            · have hres := Lib.hid (hout.out hno.out (i + 1) (by rw [hst.out, hm]; exact hm40))
              have tm : decide ((40 : Int) < (m : Int)) = true := decide_eq_true (by omega)
              go_wp2_with fail
              go_ret2
              rw [hres.out]
              exact ⟨rfl, hB4.out⟩
            · have tm : decide ((40 : Int) < (m : Int)) = false := decide_eq_false (by omega)
              go_wp2_with fail
              refine ⟨⟨i + 1, z * a, _, rfl, by omega, Lib.hid hst.out.symm, Lib.hid (by rw [hm]; omega), hb4, hs7, hB4, hz4⟩, ?_⟩
              simp only [intOf]; omega
        · obtain rfl : i = l.length := by omega
          have hzz : z = prodZ l := by rw [hz.out, List.take_length]
          have hN : NumAt wr (.agg #[.bool (decide (z < 0)), .slice sa (digs z.natAbs).length sc]) (prodZ l) := by rw [hzz]; exact ⟨_, rfl, by have := hs.out; rw [hzz] at this; exact this⟩
          have hIc := Lib.hid (hI.out _ _ (by have := hz40.out; rw [hzz] at this; omega) hN)
          obtain ⟨x, y, ht⟩ := told_tup (prodZ l)
          rw [ht] at hIc
          replace ht := Lib.hid ht
          clear hN hzz
          go_wp2_with fail
          refine hIc.out.mono ?_
          rintro e w5 ⟨rfl, b5⟩
          replace b5 := Lib.hid (hB.out.trans (b5.mono hB.out.size))
          go_wp2_with fail
          go_ret2
          rw [ht.out]
          exact ⟨rfl, b5.out⟩
end Go.Proofs.Ytacmheeodhjlbaa
