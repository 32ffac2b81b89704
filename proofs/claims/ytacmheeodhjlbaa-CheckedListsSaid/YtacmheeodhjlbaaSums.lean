/- The reference's Sum. -/
import Derived.Test.YtacmheeodhjlbaaRef
import Derived.Deep.RegionLaw
namespace Go.Proofs.Ytacmheeodhjlbaa
open Go.RowKit Go.WideShapes

theorem sum_len {l : List Int} (h : ∀ x ∈ l, InR x) (hn : l.length ≤ 17592186044416) (i : Nat) : (digs (l.take i).sum.natAbs).length ≤ 100 := by
  have h1 := sum_bd (l.take i) (fun x hx => h x (List.mem_of_mem_take hx))
  have h2 : (l.take i).length ≤ l.length := by rw [List.length_take]; omega
  exact digs_len (by omega)
set_option maxRecDepth 100000 in
set_option maxHeartbeats 8000000 in
theorem refSum_any (l : List Int) (v : Value) (w : World) (hv : IntsAt w v l) (hl : ∀ x ∈ l, InR x) (hn : l.length ≤ 17592186044416) : Calls Try.prog 25 #[v] w fun e w' => e = .returned (told l.sum) ∧ Below w.heap.size w w' := by
  have hCell : ∀ i, i < l.length → ∀ wr, Below w.heap.size w wr → ∃ g off c, v = .slice (some ⟨g, off, none⟩) l.length c ∧ wr.cell? ⟨g, off + i, none⟩ = some (.int .i64 (l.getD i 0)) := fun i hi wr hB => by
    obtain ⟨aa, ac, rfl⟩ := hv.len
    obtain ⟨g, off, rfl, hc⟩ := (hv.below hB).at (by omega)
    exact ⟨g, off, ac, rfl, hc i hi⟩
  obtain ⟨va, vc, rfl⟩ := hv.len
  have hsl := Lib.hid (sum_len hl hn)
  have hO := Lib.hid (fun a (ha : InR a) w => of_any a ha w)
  have hA := Lib.hid (fun x y h1 h2 u v w h3 h4 => num_add_any x y 100 (by omega) h1 h2 u v w h3 h4)
  have hI := Lib.hid (fun v w (h : NumAt w v l.sum) => num_int_any l.sum (by have := hsl.out l.length; rw [List.take_length] at this; omega) v w h)
  replace hCell := Lib.hid hCell
  replace hl := Lib.hid hl
  clear hv
  obtain ⟨x, y, ht⟩ := told_tup l.sum
  rw [ht] at hI ⊢
  clear ht
  go_enter Try.func25, Try.ntmps25
  go_wp2_with fail
  go_loopw [5] (fun v5 wr => ∃ (i : Nat) (z : Int) (s : Value), v5 = .int .i64 i ∧ i ≤ l.length ∧ Hid (z = (l.take i).sum) ∧ Hid (Blk wr w.heap.size #[.bool (decide (z < 0)), s] 39) ∧ Hid (IntsAt wr s (digs z.natAbs)) ∧ Hid (Below w.heap.size w wr) ∧ w.heap.size + 1 ≤ wr.heap.size) (fun v5 _ => l.length - (intOf v5).toNat)
  case atStart =>
    refine ⟨0, 0, .slice none 0 0, rfl, by omega, Lib.hid (by simp), Lib.hid ?_, Lib.hid (.inl ⟨?_, none, 0, rfl⟩), Lib.hid ((Below.refl _ w).alloc (Nat.le_refl _) _), by simp⟩
    · exact Blk.new _ _ _
    · rw [show Int.natAbs 0 = 0 from rfl, digs_zero]
  case round =>
    obtain ⟨i, z, s, rfl, hi, hz, hb, hs, hB, hsz⟩ := hrel
    have c0 : wr.cell? ⟨w.heap.size, 0, none⟩ = some (.bool (decide (z < 0))) := hb.out.cell rfl
    have c1 : wr.cell? ⟨w.heap.size, 1, none⟩ = some s := hb.out.cell rfl
    have f0 := hb.out.free 0
    have f1 := hb.out.free 1
    by_cases hlt : i < l.length
    · have hin := hl.out _ (getD_mem l i hlt)
      obtain ⟨g, off, vc', e, hx⟩ := hCell.out i hlt wr hB.out
      cases e
      have hzl : (digs z.natAbs).length ≤ 100 := by rw [hz.out]; exact hsl.out i
      have hal := Lib.hid (Nat.le_trans (small_len hin) (show 20 ≤ 100 by omega))
      have hst := sum_take l i hlt
      rw [← hz.out] at hst
      generalize l.getD i 0 = a at *
      obtain ⟨sa, sc, hss⟩ := hs.out.len
      subst hss
      replace hst := Lib.hid hst
      replace hzl := Lib.hid hzl
      have hi0 : (0 : Int) ≤ (i : Int) := by omega
      have hi1 : (i : Int) < (l.length : Int) := by omega
      go_wp2_with fail
      go_region_law (first | (go_simp; go_at_call 30; refine (hO.out a hin _).mono ?_; rintro e w2 ⟨u2, rfl, n2, b2⟩; (obtain ⟨s2, rfl, hs2, _⟩ := n2); (have hb2 := Lib.hid ((show Blk wr.drew w.heap.size _ _ from hb.out).below b2 hb.out.lt)); (have d0 : w2.cell? ⟨w.heap.size, 0, none⟩ = some (.bool (decide (z < 0))) := hb2.out.cell rfl); (have d1 : w2.cell? ⟨w.heap.size, 1, none⟩ = some (.slice sa (digs z.natAbs).length sc) := hb2.out.cell rfl)) | (go_simp; go_at_call 31; refine (hA.out z a hzl.out hal.out _ _ _ ⟨_, rfl, (show IntsAt wr.drew _ _ from hs.out).below b2⟩ ⟨_, rfl, hs2⟩).mono ?_; rintro e w3 ⟨u3, rfl, n3, b3⟩; (obtain ⟨s3, rfl, hs3, hf3⟩ := n3); (obtain ⟨sa3, sc3, hss3⟩ := hs3.len); subst hss3; (have hb3 := Lib.hid (hb2.out.below b3 (by have := hb2.out.lt; exact this))); (have e0 : w3.cell? ⟨w.heap.size, 0, none⟩ = some (.bool (decide (z < 0))) := hb3.out.cell rfl); (have e1 : w3.cell? ⟨w.heap.size, 1, none⟩ = some (.slice sa (digs z.natAbs).length sc) := hb3.out.cell rfl); (have g0 := hb3.out.free 0); (have g1 := hb3.out.free 1)))
      all_goals
        have hB3 := Lib.hid ((hB.out.drew.trans (b2.mono (show w.heap.size ≤ wr.heap.size by omega))).trans (b3.mono (Nat.le_trans (show w.heap.size ≤ wr.heap.size by omega) b2.size)))
        have hs4 := b2.size
        have hs5 := b3.size
        have hs6 : wr.drew.heap.size = wr.heap.size := rfl
        have hlt3 : w.heap.size < w2.heap.size := by omega
        replace hs3 := Lib.hid hs3
        replace hf3 := Lib.hid hf3
        clear b2 b3 hs2 d0 d1 c0 c1 f0 f1 e0 e1 g0 g1 hx
        go_wp2_with fail
        refine ⟨⟨i + 1, z + a, _, rfl, by omega, Lib.hid hst.out.symm, Lib.hid ((hb3.out.set 0 _).set 1 _), Lib.hid ((hs3.out.setCell hf3.out hlt3 _).setCell hf3.out hlt3 _), Lib.hid ((hB3.out.setCell (Nat.le_refl _) _).setCell (Nat.le_refl _) _), by simp [World.setCell]; omega⟩, ?_⟩
        simp only [intOf]; omega
    · obtain rfl : i = l.length := by omega
      have hzz : z = l.sum := by rw [hz.out, List.take_length]
      have hN : NumAt wr (.agg #[.bool (decide (z < 0)), s]) l.sum := by rw [hzz]; exact ⟨s, rfl, by rw [← hzz]; exact hs.out⟩
      have hIc := Lib.hid (hI.out _ _ hN)
      clear hN hzz
      obtain ⟨sa, sc, hss⟩ := hs.out.len
      subst hss
      go_wp2_with fail
      refine hIc.out.mono ?_
      rintro e w5 ⟨rfl, b5⟩
      replace b5 := Lib.hid (hB.out.trans (b5.mono hB.out.size))
      go_wp2_with fail
      go_ret2
      exact ⟨rfl, b5.out⟩
end Go.Proofs.Ytacmheeodhjlbaa
