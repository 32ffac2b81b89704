/- The reference's numbers: Int. -/
import Derived.Test.YtacmheeodhjlbaaNums
namespace Go.Proofs.Ytacmheeodhjlbaa
open Go.RowKit Go.WideShapes

theorem digs_one : digs 1 = [1] := by rw [digs_pos (by omega), show 1 / 10 = 0 from rfl, digs_zero]; rfl
theorem ints_one (w : World) (t : TypeId) : IntsAt (w.alloc (.cells #[.int .i64 1] t)) (.slice (some ⟨w.heap.size, 0, none⟩) 1 1) (digs 1) := by
  rw [digs_one]
  exact .inr ⟨_, 0, 1, rfl, ⟨by simp, by simp⟩, fun i hi => by
    obtain rfl : i = 0 := by simpa using hi
    exact (Blk.new w #[.int .i64 1] t).cell rfl⟩
/-- What a number's size may be at most. -/
def mostOf (b : Bool) : Nat := if b then 9223372036854775808 else 9223372036854775807
theorem most_in (z : Int) : mostOf (decide (z < 0)) < z.natAbs ↔ ¬ InR z := by
  unfold mostOf InR
  by_cases h : z < 0
  · rw [decide_eq_true h]; simp; omega
  · rw [decide_eq_false h]; simp; omega
theorem digit_up {m k : Nat} : 10 * (m / 10 ^ (k + 1)) + m / 10 ^ k % 10 = m / 10 ^ k := by
  rw [div_pow_succ']; omega
set_option maxRecDepth 100000 in
set_option maxHeartbeats 4000000 in
theorem num_int_any (z : Int) (hzl : (digs z.natAbs).length ≤ 100000) (v : Value) (w : World) (hv : NumAt w v z) : Calls Try.prog 32 #[v] w fun e w' => e = .returned (told z) ∧ Below w.heap.size w w' := by
  have hfd : ∀ s v w, (Instr.field 39 (.agg #[.bool s, v]) 1).run Try.prog w = .ok v w := fun _ _ _ => by kernel_rfl
  obtain ⟨s, rfl, hs⟩ := hv
  have hmi := Lib.hid (most_in z)
  have hOf := Lib.hid (fun w => of_any 9223372036854775807 (by unfold InR; omega) w)
  obtain ⟨sa, sc, rfl⟩ := hs.len
  have hbn : z < 0 ↔ decide (z < 0) = true := by simp
  replace hbn := Lib.hid hbn
  generalize decide (z < 0) = b at *
  replace hs := Lib.hid hs
  go_enter Try.func32, Try.ntmps32
  go_wp2_with fail
  have hb := Lib.hid (Blk.new w #[.bool b, .slice sa (digs z.natAbs).length sc] 39)
  refine (hOf.out _).mono ?_
  rintro e w1 ⟨u, rfl, ⟨s1, rfl, hs1, _⟩, hB1⟩
  have hB : Below w.heap.size w w1 := ((Below.refl _ w).alloc (Nat.le_refl _) _).trans (hB1.mono (by simp))
  have hb1 : Blk w1 w.heap.size #[.bool b, .slice sa (digs z.natAbs).length sc] 39 := hb.out.below hB1 (by simp)
  have hs1' : IntsAt w1 s1 (digs 9223372036854775807) := hs1
  have c0 : w1.cell? ⟨w.heap.size, 0, none⟩ = some (.bool b) := hb1.cell rfl
  replace hb1 := Lib.hid hb1
  replace hB := Lib.hid hB
  replace hs1' := Lib.hid hs1'
  clear hs1 hB1 hb
  go_upto_if 10 with (fail)
  go_cut [4] from 11 to 13 (fun v4 wc => Hid (IntsAt wc v4 (digs (mostOf b))) ∧ Hid (Blk wc w.heap.size #[.bool b, .slice sa (digs z.natAbs).length sc] 39) ∧ Hid (Below w.heap.size w wc))
  case first =>
    obtain ⟨qa, qc, rfl⟩ := hs1'.out.len
    cases b
    · clear hOf hmi hbn
      go_wp2_with fail
      go_meet
      case rel => exact ⟨hs1', hb1, hB⟩
    · have hT := Lib.hid (fun wr (h1 : IntsAt wr (.slice qa (digs 9223372036854775807).length qc) (digs 9223372036854775807)) t (h2 : IntsAt wr t (digs 1)) => together_any _ _ _ _ 20 (Is.of_digs 9223372036854775807) (Is.of_digs 1) (digs_len (by omega)) (digs_len (by omega)) (by omega) _ t wr h1 h2)
      clear hOf hmi hbn
      go_wp2_with fail
      refine (hT.out _ (hs1'.out.below ((Below.refl _ _).alloc (Nat.le_refl _) _)) _ (ints_one w1 _)).mono ?_
      rintro e w2 ⟨u, r, rfl, ⟨hu, _⟩, _, _, hr, hB2⟩
      obtain rfl := hr (can_digs _) (can_digs _)
      have hu' := Lib.hid hu
      clear hu hr
      have hB2' := Lib.hid ((hB.out.alloc hB.out.size _).trans (hB2.mono (by have := hB.out.size; simp; omega)))
      have hb2 := Lib.hid ((hb1.out.alloc _).below hB2 (by have := hb1.out.lt; simp; omega))
      clear hB2
      go_wp2_with fail
      go_meet
      case rel => exact ⟨hu', hb2, hB2'⟩
  case rest =>
  obtain ⟨hm4, hb2, hB2⟩ := hcut
  clear hs1' hb1 hB c0 hfd
  have c0 : wc.cell? ⟨w.heap.size, 0, none⟩ = some (.bool b) := hb2.out.cell rfl
  have c1 : wc.cell? ⟨w.heap.size, 1, none⟩ = some (.slice sa (digs z.natAbs).length sc) := hb2.out.cell rfl
  have hL := Lib.hid (less_any _ _ _ _ wc hm4.out (hs.out.below hB2.out) (by omega))
  go_wp2_with fail
  refine hL.out.mono ?_
  rintro e w2 ⟨rfl, n2, rfl⟩
  have hB3 := Lib.hid (below_drawn hB2.out n2)
  have hb3 : Hid (Blk (wc.drewN n2) w.heap.size #[.bool b, .slice sa (digs z.natAbs).length sc] 39) := hb2
  replace c0 : (wc.drewN n2).cell? ⟨w.heap.size, 0, none⟩ = some (.bool b) := c0
  replace c1 : (wc.drewN n2).cell? ⟨w.heap.size, 1, none⟩ = some (.slice sa (digs z.natAbs).length sc) := c1
  clear hL hm4
  generalize wc.drewN n2 = W at *
  by_cases hin : InR z
  · rw [decide_eq_false (fun h => hmi.out.1 h hin)]
    have hres := Lib.hid (told_in hin)
    have hn := natAbs_lt hin
    have hget := Lib.hid (digs_get z.natAbs)
    have htop := Lib.hid (digs_top z.natAbs)
    have hat := Lib.hid (fun hp => (hs.out.below hB3.out).at hp)
    have hbz : Hid (if b = true then z = -(z.natAbs : Int) else z = z.natAbs) := Lib.hid (by
      have := hbn.out
      cases b
      · have h : ¬ z < 0 := fun h => by have := this.1 h; cases this
        simp; omega
      · have h := this.2 rfl
        simp; omega)
    replace hin := Lib.hid hin
    clear hs hB2 hb2 hmi hbn hOf
    generalize z.natAbs = m at *
    generalize digs m = D at *
    generalize D.length = L at *
    go_wp2_with fail
    go_loopw [5, 6] (fun v5 v6 wr => ∃ k N : Nat, v5 = .int .u64 N ∧ v6 = .int .i64 ((k : Int) - 1) ∧ k ≤ L ∧ Hid (N = m / 10 ^ k) ∧ ∃ q, wr = W.drewN q) (fun _ v6 _ => (intOf v6 + 1).toNat)
    case atStart => exact ⟨L, 0, rfl, rfl, Nat.le_refl _, Lib.hid (Nat.div_eq_of_lt htop.out).symm, 0, rfl⟩
    case round =>
      obtain ⟨k, N, rfl, rfl, hk, hN, q, rfl⟩ := hrel
      rcases Nat.eq_zero_or_pos k with h0 | hp
      · subst h0
        obtain rfl : N = m := by simpa using hN.out
        clear hN
        have w1 : wrap64 (IntKind.u64.wrap (-(N : Int))) = -(N : Int) := by rw [IntKind.wrap_u64]; unfold wrap64; omega
        cases b
        · have hzz : z = N := by simpa using hbz.out
          have w2 : wrap64 (N : Int) = (N : Int) := by have := hin.out; unfold InR at this; unfold wrap64; omega
          replace hzz := Lib.hid hzz
          go_wp2_with fail
          go_ret2
          rw [hres.out, hzz.out]
          exact ⟨congrArg (fun x => Ending.returned (tup x 0)) w2, below_drawn hB3.out _⟩
        · have hzz : z = -(N : Int) := by simpa using hbz.out
          replace hzz := Lib.hid hzz
          go_wp2_with fail
          go_ret2
          rw [hres.out, hzz.out]
          exact ⟨rfl, below_drawn hB3.out _⟩
      · obtain ⟨k, rfl⟩ : ∃ j, k = j + 1 := ⟨k - 1, by omega⟩
        rw [show ((k + 1 : Nat) : Int) - 1 = (k : Int) by omega]
        have hkn : k < L := by omega
        obtain ⟨b1, o1, rfl, hc1⟩ := hat.out (by omega)
        have hx := hc1 k hkn
        rw [hget.out] at hx
        clear hc1
        have hup := digit_up (m := m) (k := k)
        rw [← hN.out] at hup
        have hle : m / 10 ^ k ≤ 9223372036854775808 := Nat.le_trans (Nat.div_le_self _ _) hn
        have hx9 : m / 10 ^ k % 10 < 10 := by omega
        rw [← hup] at hle
        generalize m / 10 ^ k % 10 = x at *
        replace hup := Lib.hid hup
        have hk0 : (0 : Int) ≤ (k : Int) := by omega
        have hk1 : (k : Int) < (L : Int) := by omega
        go_wp2_with fail
        refine ⟨⟨k, 10 * N + x, congrArg (Value.int .u64) (by omega), rfl, by omega, hup, _, rfl⟩, ?_⟩
        simp only [intOf]; omega
  · rw [decide_eq_true (hmi.out.2 hin)]
    have hout := Lib.hid (told_out hin)
    go_wp2_with fail
    go_ret2
    rw [hout.out]
    exact ⟨rfl, hB3.out⟩
end Go.Proofs.Ytacmheeodhjlbaa
