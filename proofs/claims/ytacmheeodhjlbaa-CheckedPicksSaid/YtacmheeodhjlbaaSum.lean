/- Sums of numbers in a slice. -/
import Derived.Test.YtacmheeodhjlbaaInts
import Derived.LoopTactic
import Derived.WideLaws
import Derived.Laws.Externs
namespace Go.Proofs.Ytacmheeodhjlbaa
open Go.RowKit Go.WideShapes

/-- A slice of these numbers. -/
def IntsAt (w : World) (v : Value) (l : List Int) : Prop :=
  (l = [] ∧ ∃ a c, v = .slice a 0 c) ∨ ∃ b off c, v = .slice (some ⟨b, off, none⟩) l.length c ∧ (b < w.heap.size ∧ l.length ≤ c) ∧ ∀ i, i < l.length → w.cell? ⟨b, off + i, none⟩ = some (.int .i64 (l.getD i 0))
theorem IntsAt.len {w : World} {v : Value} {l : List Int} (h : IntsAt w v l) : ∃ a c, v = .slice a l.length c := by
  rcases h with ⟨rfl, a, c, rfl⟩ | ⟨b, off, c, rfl, _⟩
  · exact ⟨a, c, rfl⟩
  · exact ⟨_, c, rfl⟩
theorem IntsAt.below {w w' : World} {v : Value} {l : List Int} (h : IntsAt w v l) (hB : Below w.heap.size w w') : IntsAt w' v l := by
  rcases h with h | ⟨b, off, c, rfl, hb, hc⟩
  · exact .inl h
  · exact .inr ⟨b, off, c, rfl, ⟨Nat.lt_of_lt_of_le hb.1 hB.size, hb.2⟩, fun i hi => (hB.cell (p := ⟨b, _, none⟩) hb.1).trans (hc i hi)⟩
theorem IntsAt.cap {w : World} {a : Option Addr} {n c : Nat} {l : List Int} (h : IntsAt w (.slice a n c) l) : n = l.length ∧ l.length ≤ c := by
  rcases h with ⟨rfl, a, c, e⟩ | ⟨b, off, c, e, hb, _⟩
  · cases e; exact ⟨rfl, Nat.zero_le _⟩
  · cases e; exact ⟨rfl, hb.2⟩
theorem IntsAt.at {w : World} {a : Option Addr} {n c : Nat} {l : List Int} (h : IntsAt w (.slice a n c) l) (hp : 0 < l.length) : ∃ b off, a = some ⟨b, off, none⟩ ∧ ∀ i, i < l.length → w.cell? ⟨b, off + i, none⟩ = some (.int .i64 (l.getD i 0)) := by
  rcases h with ⟨rfl, _⟩ | ⟨b, off, c', e, _, hc⟩
  · exact absurd hp (by simp)
  · cases e
    exact ⟨b, off, rfl, hc⟩
/-- As IntsAt, at an address of whatever form. -/
def IntsAny (w : World) (v : Value) (l : List Int) : Prop :=
  ∃ a c, v = .slice a l.length c ∧ (0 < l.length → ∃ ad, a = some ad ∧ ∀ i, i < l.length → w.cell? (ad.add i) = some (.int .i64 (l.getD i 0)))
theorem add_plain (b off i : Nat) : (⟨b, off, none⟩ : Addr).add i = ⟨b, off + i, none⟩ := by
  unfold Addr.add
  split
  · next h => subst h; rfl
  · rfl
theorem IntsAt.any {w : World} {v : Value} {l : List Int} (h : IntsAt w v l) : IntsAny w v l := by
  rcases h with ⟨rfl, a, c, rfl⟩ | ⟨b, off, c, rfl, hb, hc⟩
  · exact ⟨a, c, rfl, fun h => by simp at h⟩
  · exact ⟨_, c, rfl, fun _ => ⟨_, rfl, fun i hi => by rw [add_plain]; exact hc i hi⟩⟩
theorem IntsAny.below {w w' : World} {v : Value} {l : List Int} (h : IntsAny w v l) (hB : Below w.heap.size w w') : IntsAny w' v l := by
  obtain ⟨a, c, rfl, hc⟩ := h
  refine ⟨a, c, rfl, fun hp => ?_⟩
  obtain ⟨ad, e, hc⟩ := hc hp
  exact ⟨ad, e, fun i hi => (hB.cell (block_lt_of_cell (hc i hi))).trans (hc i hi)⟩
theorem IntsAny.len {w : World} {v : Value} {l : List Int} (h : IntsAny w v l) : ∃ a c, v = .slice a l.length c := by
  obtain ⟨a, c, e, _⟩ := h
  exact ⟨a, c, e⟩
theorem IntsAny.at {w : World} {a : Option Addr} {n c : Nat} {l : List Int} (h : IntsAny w (.slice a n c) l) (hp : 0 < l.length) : ∃ ad, a = some ad ∧ ∀ i, i < l.length → w.cell? (ad.add i) = some (.int .i64 (l.getD i 0)) := by
  obtain ⟨a', c', e, hc⟩ := h
  cases e
  exact hc hp
theorem add64_run (x y c : Int) (hx : 0 ≤ x) (hy : 0 ≤ y) (hc0 : 0 ≤ c) (hc : c ≤ 1) (w : World) :
    (callFunc 39 #[.int .u64 x, .int .u64 y, .int .u64 c]).run Try.prog w = .ok (.value (.tuple #[.int .u64 ((x + y + c) % 18446744073709551616), .int .u64 ((x + y + c) / 18446744073709551616)])) w := by
  rw [run_callFunc_extern Try.func39 (by kernel_rfl) (by kernel_rfl) (by kernel_rfl) (e := add64Entry) (by kernel_rfl), run_add64 x y c hx hy hc0 hc]
  rfl
theorem sum_take (l : List Int) (i : Nat) (h : i < l.length) : (l.take (i + 1)).sum = (l.take i).sum + l.getD i 0 := by
  rw [List.take_succ_eq_append_getElem h, List.sum_append]
  simp [h]
theorem sum_bd (l : List Int) (h : ∀ x ∈ l, InR x) : -9223372036854775808 * (l.length : Int) ≤ l.sum ∧ l.sum ≤ 9223372036854775807 * (l.length : Int) := by
  induction l with
  | nil => simp
  | cons a l ih =>
    have h1 := h a (by simp)
    have h2 := ih fun x hx => h x (by simp [hx])
    unfold InR at h1
    simp only [List.sum_cons, List.length_cons]
    omega
theorem getD_mem (l : List Int) (i : Nat) (h : i < l.length) : l.getD i 0 ∈ l := by simp [h]

set_option maxRecDepth 100000 in
set_option maxHeartbeats 4000000 in
theorem sum_any (l : List Int) (v : Value) (w : World) (hv : IntsAny w v l) (hl : ∀ x ∈ l, InR x) (hn : l.length ≤ 17592186044416) : Calls Try.prog 24 #[v] w fun e w' => e = .returned (told l.sum) ∧ w' = w := by
  obtain ⟨va, vc, rfl⟩ := hv.len
  have hat := Lib.hid (fun hp => hv.at hp)
  have hbd := Lib.hid (sum_bd l hl)
  replace hl := Lib.hid hl
  clear hv
  have hadd := add64_run
  go_enter Try.func24, Try.ntmps24
  go_wp2_with fail
  go_loopw [4, 5, 11] (fun v4 v5 v11 wr => ∃ (i : Nat) (T hi lo : Int), v4 = .int .u64 hi ∧ v5 = .int .u64 lo ∧ v11 = .int .i64 i ∧ Hid (i ≤ l.length ∧ T = (l.take i).sum ∧ ∃ q : Int, T = 18446744073709551616 * q + lo ∧ hi = q % 18446744073709551616) ∧ 0 ≤ lo ∧ lo < 18446744073709551616 ∧ 0 ≤ hi ∧ hi < 18446744073709551616 ∧ wr = w) (fun _ _ v11 _ => l.length - (intOf v11).toNat)
  case atStart => exact ⟨0, 0, 0, 0, rfl, rfl, rfl, Lib.hid ⟨by omega, by simp, 0, by omega, by omega⟩, by omega, by omega, by omega, by omega, rfl⟩
  case round =>
    obtain ⟨i, T, hi, lo, rfl, rfl, rfl, hr, hlo0, hlo1, hhi0, hhi1, rfl⟩ := hrel
    by_cases hlt : i < l.length
    · obtain ⟨ad, rfl, hcs⟩ := hat.out (by omega)
      have hx := hcs i hlt
      clear hcs
      have hin := hl.out _ (getD_mem l i hlt)
      have hst := Lib.hid (sum_take l i hlt)
      unfold InR at hin
      generalize l.getD i 0 = a at *
      obtain ⟨hb1, hb2⟩ := hin
      have hadd1 := hadd lo (IntKind.u64.wrap a) 0 hlo0 (by rw [IntKind.wrap_u64]; omega) (by omega) (by omega) wr
      have hadd2 := hadd hi (IntKind.u64.wrap (a / 9223372036854775808)) ((lo + IntKind.u64.wrap a) / 18446744073709551616) hhi0 (by rw [IntKind.wrap_u64]; omega) (by rw [IntKind.wrap_u64]; omega) (by rw [IntKind.wrap_u64]; omega) wr
      clear hadd
      go_wp2_with fail
      obtain ⟨_, hT, q, hq1, hq2⟩ := hr.out
      have hS := hst.out
      rw [← hT] at hS
      simp only [IntKind.wrap_u64]
      refine ⟨⟨i + 1, T + a, _, _, rfl, rfl, rfl, Lib.hid ⟨by omega, hS.symm, q + (if a < 0 then -1 else 0) + (lo + a % 18446744073709551616) / 18446744073709551616, ?_, ?_⟩, by omega, by omega, by omega, by omega, trivial⟩, ?_⟩
      · split <;> omega
      · split <;> omega
      · simp [intOf]; omega
    · obtain ⟨hi2, hT, q, hq1, hq2⟩ := hr.out
      obtain rfl : i = l.length := by omega
      rw [List.take_length] at hT
      obtain ⟨hb1, hb2⟩ := hbd.out
      rw [← hT] at hb1 hb2
      have HT := Lib.hid hT
      have hq3 : -1000000000000000000 ≤ q ∧ q ≤ 1000000000000000000 := by omega
      clear hadd hat hbd hl hT hr
      have hs : IntKind.u64.wrap (wrap64 lo / 9223372036854775808) = if lo < 9223372036854775808 then 0 else 18446744073709551615 := by
        rw [IntKind.wrap_u64]; unfold wrap64; split <;> omega
      have hqm : q % 18446744073709551616 = if q < 0 then q + 18446744073709551616 else q := by split <;> omega
      rw [hqm] at hq2
      clear hqm
      by_cases hfit : InR T
      · unfold InR at hfit
        have ht : (hi != IntKind.u64.wrap (wrap64 lo / 9223372036854775808)) = false := by
          rw [bne_eq_false_iff_eq, hs]; split <;> split at hq2 <;> omega
        have hv : wrap64 lo = T := by unfold wrap64; omega
        have HV := Lib.hid hv
        replace hfit := Lib.hid hfit
        clear hv hs hq1 hq2 hq3 hb1 hb2
        go_wp2_with fail
        go_ret2
        rw [← HT.out, told_in hfit.out, HV.out]
        exact ⟨rfl, rfl⟩
      · have hout := Lib.hid (told_out hfit)
        unfold InR at hfit
        have ht : (hi != IntKind.u64.wrap (wrap64 lo / 9223372036854775808)) = true := by
          rw [bne_iff_ne, ne_eq, hs]; split <;> split at hq2 <;> omega
        clear hs hq1 hq2 hq3 hfit hb1 hb2
        go_wp2_with fail
        go_ret2
        rw [← HT.out, hout.out]
        exact ⟨rfl, rfl⟩
theorem index_any (l : List Int) (x : Int) (v : Value) (w : World) (hv : IntsAny w v l) (hn : l.length ≤ 17592186044416) : Calls Try.prog 46 #[v, .int .i64 x] w fun e w' => (∃ k : Int, e = .returned (.int .i64 k) ∧ (0 ≤ k ↔ x ∈ l)) ∧ w' = w := by
  obtain ⟨va, vc, rfl⟩ := hv.len
  have hat := Lib.hid (fun hp => hv.at hp)
  clear hv
  go_enter Try.func46, Try.ntmps46
  go_wp2_with fail
  go_loopw [8] (fun v8 wr => ∃ i : Nat, v8 = .int .i64 i ∧ Hid (i ≤ l.length ∧ ∀ k, k < i → l.getD k 0 ≠ x) ∧ wr = w) (fun v8 _ => l.length - (intOf v8).toNat)
  case atStart => exact ⟨0, rfl, Lib.hid ⟨by omega, fun k hk => by omega⟩, rfl⟩
  case round =>
    obtain ⟨i, rfl, hr, rfl⟩ := hrel
    by_cases hlt : i < l.length
    · obtain ⟨ad, rfl, hcs⟩ := hat.out (by omega)
      have hx := hcs i hlt
      clear hcs
      have hm := Lib.hid (getD_mem l i hlt)
      generalize hga : l.getD i 0 = a at *
      replace hga := Lib.hid hga
      by_cases he : x = a
      · subst he
        have t1 : (x == x) = true := beq_self_eq_true x
        go_wp2_with fail
        go_ret
        exact ⟨⟨i, rfl, by simp [hm.out]⟩, rfl⟩
      · have t1 : (x == a) = false := by rw [beq_eq_false_iff_ne]; exact he
        replace he := Lib.hid he
        go_wp2_with fail
        refine ⟨⟨i + 1, by go_num, Lib.hid ⟨by omega, fun k hk => ?_⟩, trivial⟩, ?_⟩
        · rcases Nat.lt_or_ge k i with h | h
          · exact hr.out.2 k h
          · obtain rfl : k = i := by omega
            rw [hga.out]
            exact fun e => he.out e.symm
        · simp [intOf]; omega
    · obtain ⟨hi2, hno⟩ := hr.out
      obtain rfl : i = l.length := by omega
      have hnm : ¬ x ∈ l := fun h => by
        obtain ⟨k, hk, e⟩ := List.getElem_of_mem h
        exact hno k hk (by simp [hk, e])
      replace hnm := Lib.hid hnm
      go_wp2_with fail
      go_ret
      exact ⟨⟨-1, rfl, by simp [hnm.out]⟩, rfl⟩
theorem contains_any (l : List Int) (x : Int) (v : Value) (w : World) (hv : IntsAny w v l) (hn : l.length ≤ 17592186044416) : Calls Try.prog 40 #[v, .int .i64 x] w fun e w' => e = .returned (.bool (decide (x ∈ l))) ∧ w' = w := by
  obtain ⟨va, vc, rfl⟩ := hv.len
  have hI := index_any l x _ w hv hn
  clear hv
  go_enter Try.func40, Try.ntmps40
  go_wp2_with fail
  refine hI.mono ?_
  rintro e w1 ⟨⟨k, rfl, hk⟩, rfl⟩
  go_wp2_with fail
  go_ret
  exact ⟨rfl, rfl⟩
def prodZ : List Int → Int
  | [] => 1
  | a :: l => a * prodZ l
theorem prodZ_append (l m : List Int) : prodZ (l ++ m) = prodZ l * prodZ m := by
  induction l with
  | nil => simp [prodZ]
  | cons a l ih => simp [prodZ, ih, Int.mul_assoc]
theorem prodZ_take (l : List Int) (i : Nat) (h : i < l.length) : prodZ (l.take (i + 1)) = prodZ (l.take i) * l.getD i 0 := by
  rw [List.take_succ_eq_append_getElem h, prodZ_append]
  simp [prodZ, h]
theorem prodZ_zero {l : List Int} (h : (0 : Int) ∈ l) : prodZ l = 0 := by
  induction l with
  | nil => cases h
  | cons a l ih =>
    rcases List.mem_cons.1 h with e | e
    · rw [prodZ, ← e, Int.zero_mul]
    · rw [prodZ, ih e, Int.mul_zero]
theorem prodZ_ne {l : List Int} (h : ¬ (0 : Int) ∈ l) : prodZ l ≠ 0 := by
  induction l with
  | nil => simp [prodZ]
  | cons a l ih =>
    rw [List.mem_cons, not_or] at h
    rw [prodZ]
    exact Int.mul_ne_zero (fun e => h.1 e.symm) (ih h.2)
/-- No part of a product without 0 is farther from 0 than the whole. -/
theorem prodZ_le {l : List Int} (h : ¬ (0 : Int) ∈ l) (i : Nat) : (prodZ (l.take i)).natAbs ≤ (prodZ l).natAbs := by
  have e : prodZ l = prodZ (l.take i) * prodZ (l.drop i) := by rw [← prodZ_append, List.take_append_drop]
  have hd : prodZ (l.drop i) ≠ 0 := prodZ_ne (fun hm => h (List.mem_of_mem_drop hm))
  rw [e, Int.natAbs_mul]
  exact Nat.le_mul_of_pos_right _ (by omega)
theorem below_mul {p a : Int} (hp : p ≠ 0) (ha : a ≠ 0) : (!decide (p < 0) == decide (a < 0)) = decide (p * a < 0) := by
  rcases Int.lt_or_gt_of_ne hp with h1 | h1 <;> rcases Int.lt_or_gt_of_ne ha with h2 | h2
  · have := Int.mul_pos_of_neg_of_neg h1 h2
    rw [decide_eq_true h1, decide_eq_true h2, decide_eq_false (show ¬ p * a < 0 from fun h => Int.lt_asymm h this)]; rfl
  · have := Int.mul_neg_of_neg_of_pos h1 h2
    rw [decide_eq_true h1, decide_eq_false (show ¬ a < 0 by omega), decide_eq_true this]; rfl
  · have := Int.mul_neg_of_pos_of_neg h1 h2
    rw [decide_eq_false (show ¬ p < 0 by omega), decide_eq_true h2, decide_eq_true this]; rfl
  · have := Int.mul_pos h1 h2
    rw [decide_eq_false (show ¬ p < 0 by omega), decide_eq_false (show ¬ a < 0 by omega), decide_eq_false (show ¬ p * a < 0 from fun h => Int.lt_asymm h this)]; rfl
set_option maxRecDepth 100000 in
set_option maxHeartbeats 4000000 in
theorem product_any (l : List Int) (v : Value) (w : World) (hv : IntsAny w v l) (hl : ∀ x ∈ l, InR x) (hn : l.length ≤ 17592186044416) : Calls Try.prog 26 #[v] w fun e w' => e = .returned (told (prodZ l)) ∧ w' = w := by
  have hC := contains_any l 0 v w hv hn
  obtain ⟨va, vc, rfl⟩ := hv.len
  have hat := Lib.hid (fun hp => hv.at hp)
  clear hv
  by_cases h0 : (0 : Int) ∈ l
  · rw [prodZ_zero h0]
    rw [decide_eq_true h0] at hC
    go_enter Try.func26, Try.ntmps26
    go_wp2_with fail
    refine hC.mono ?_
    rintro e w1 ⟨rfl, rfl⟩
    go_wp2_with fail
    go_ret2
    exact ⟨rfl, rfl⟩
  rw [decide_eq_false h0] at hC
  have hle := Lib.hid (fun i => prodZ_le h0 i)
  replace hl := Lib.hid hl
  replace h0 := Lib.hid h0
  go_enter Try.func26, Try.ntmps26
  go_wp2_with fail
  refine hC.mono ?_
  rintro e w1 ⟨rfl, rfl⟩
  go_wp2_with fail
  go_loopw [4, 5, 13] (fun v4 v5 v13 wr => ∃ (i n : Nat) (p : Int) (bl : Bool), v4 = .int .u64 n ∧ v5 = .bool bl ∧ v13 = .int .i64 i ∧ Hid (i ≤ l.length ∧ p = prodZ (l.take i) ∧ n = p.natAbs ∧ bl = decide (p < 0)) ∧ n < 18446744073709551616 ∧ wr = w1) (fun _ _ v13 _ => l.length - (intOf v13).toNat)
  case atStart => exact ⟨0, 1, 1, false, rfl, rfl, rfl, Lib.hid ⟨by omega, rfl, rfl, rfl⟩, by omega, rfl⟩
  case round =>
    obtain ⟨i, n, p, bl, rfl, rfl, rfl, hr, hn64, rfl⟩ := hrel
    by_cases hlt : i < l.length
    · obtain ⟨ad, rfl, hcs⟩ := hat.out (by omega)
      have hx := hcs i hlt
      clear hcs
      have hin := hl.out _ (getD_mem l i hlt)
      have ha0 : l.getD i 0 ≠ 0 := fun e => h0.out (e ▸ getD_mem l i hlt)
      have hst := prodZ_take l i hlt
      have hle1 := hle.out (i + 1)
      rw [hst] at hle1
      obtain ⟨_, hp, hpn, hbl⟩ := hr.out
      rw [← hp] at hst hle1
      have hp0 : p ≠ 0 := by
        rw [hp]
        exact prodZ_ne (fun hm => h0.out (List.mem_of_mem_take hm))
      generalize l.getD i 0 = a at *
      have hS := size_any a hin wr
      have na := natAbs_lt hin
      have hM := mul64_any n a.natAbs hn64 (by omega) wr
      have hnn : (p * a).natAbs = n * a.natAbs := by rw [Int.natAbs_mul, hpn]
      have hpos : 0 < n * a.natAbs := Nat.mul_pos (by omega) (by omega)
      have hsg : (!bl == decide (a < 0)) = decide (p * a < 0) := by rw [hbl]; exact below_mul hp0 ha0
      rw [hnn] at hle1
      generalize n * a.natAbs = N at *
      replace hst := Lib.hid hst
      replace hnn := Lib.hid hnn
      replace hle1 := Lib.hid hle1
      clear hp hpn hbl hr hin na hp0
      obtain ⟨hi, hhi⟩ : ∃ h, h = N / 18446744073709551616 := ⟨_, rfl⟩
      obtain ⟨lo, hlo⟩ : ∃ h, h = N % 18446744073709551616 := ⟨_, rfl⟩
      rw [← hhi, ← hlo] at hM
      have hlo64 : lo < 18446744073709551616 := by omega
      by_cases c0 : 0 < hi
      · have hout : Hid (told (prodZ l) = tup 0 30) := Lib.hid (told_out (fun h => by
          have := hle1.out
          unfold InR at h
          omega))
        clear hhi hlo
        go_wp2_with fail
        refine hS.mono ?_
        rintro e w2 ⟨rfl, rfl⟩
        go_wp2_with fail
        refine hM.mono ?_
        rintro e w2 ⟨rfl, rfl⟩
        go_wp2_with fail
        go_ret2
        rw [hout.out]
        exact ⟨rfl, rfl⟩
      · obtain rfl : lo = N := by omega
        have hi0 : hi = 0 := by omega
        clear hhi hlo
        subst hi0
        go_wp2_with fail
        refine hS.mono ?_
        rintro e w2 ⟨rfl, rfl⟩
        go_wp2_with fail
        refine hM.mono ?_
        rintro e w2 ⟨rfl, rfl⟩
        go_wp2_with fail
        refine ⟨⟨i + 1, lo, p * a, _, rfl, rfl, rfl, Lib.hid ⟨by omega, hst.out.symm, hnn.out.symm, rfl⟩, hlo64, trivial⟩, ?_⟩
        simp [intOf]; omega
    · obtain ⟨hi2, hp, hpn, hbl⟩ := hr.out
      obtain rfl : i = l.length := by omega
      rw [List.take_length] at hp
      have hS := signed_any n hn64 bl wr
      have hz : (if bl = true then -(n : Int) else (n : Int)) = prodZ l := by
        rw [← hp, hbl, hpn]
        by_cases h : p < 0
        · rw [decide_eq_true h, if_pos rfl]; omega
        · rw [decide_eq_false h]; simp; omega
      rw [hz] at hS
      obtain ⟨x, y, ht⟩ := told_tup (prodZ l)
      rw [ht] at hS
      replace ht := Lib.hid ht
      clear hp hpn hbl hz
      go_wp2_with fail
      refine hS.mono ?_
      rintro e w2 ⟨rfl, rfl⟩
      go_wp2_with fail
      go_ret2
      rw [ht.out]
      exact ⟨rfl, rfl⟩
end Go.Proofs.Ytacmheeodhjlbaa
