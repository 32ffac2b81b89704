/- The walk of MaskSubsets: for every word it answers true. -/
import Derived.Test.YtmmhcfbnelggfaaSubs
import Derived.RangeFuncBox
import Derived.Test.YtmmhcfbnelggfaaKit
namespace Go.Proofs.Ytmmhcfbnelggfaa
open Go.RowKit Go.Shelf
attribute [local go_sem] Oper.semAt_some

theorem subs_prefix_eq {m N : Nat} {pre : List Nat} (h : pre <+: subsTo m N) : pre = subsTo m pre.length := by
  have hl := h.length_le
  rw [subsTo_length] at hl
  have h1 := List.prefix_iff_eq_take.1 h
  rw [h1]
  simp only [List.length_take, subsTo_length, Nat.min_eq_left hl]
  unfold subsTo
  rw [← List.map_take, List.take_range, Nat.min_eq_left hl]

theorem ownsRow_slice {w : World} {base : Nat} {e : TypeId} {size : Nat} {v : Value} {n : Nat} {xs : List Value} (h : w.ownsRow base e size v n xs) : ∃ a c, v = .slice a n c := by
  rcases h.2 with ⟨h, hx⟩ | ⟨g, cap, cur, hv, _⟩
  · exact ⟨none, 0, by rw [h, hx]⟩
  · exact ⟨_, _, hv⟩

/-- Behind the loop: the deferred block is taken; the result's cell tells true. -/
theorem subs_end {fn : Func} {tmps : Array Value} {W w : World} {n0 D p : Nat} (hfn : fn.results = #[.cell p 4]) (hp : tmps.getD p undef = .pointer (some ⟨n0, 0, none⟩)) (hK : W.heap[D]? = some (.deferred (some []))) (hb : Blk W n0 #[.bool true] 4) (hB : Below n0 w W) (hD : n0 ≤ D) :
    ∃ v, (results fn tmps).run Try.prog (W.putObj D (.deferred none)) = .ok v (W.putObj D (.deferred none)) ∧ Ending.returned v = Ending.returned (.bool true) ∧ Below n0 w (W.putObj D (.deferred none)) := by
  have hc := cell_kept hb.one (grownBy_putObj' W D (.deferred none)) (fun r e => by cases e; exact ⟨_, hK, rfl⟩)
  refine ⟨.bool true, ?_, rfl, hB.trans ⟨rfl, rfl, rfl, by simp, fun k hk => World.putObj_heap_other (by omega)⟩⟩
  simp only [Array.getD_eq_getD_getElem?] at hp
  simp [results, hfn, go_sem, hc, hp]

theorem subs_not_nil (b : Nat) (w : World) : (Go.binOp .eql 27 (.func (.func 16) #[] #[.pointer (some ⟨b, 0, none⟩)]) .nilFunc).run Try.prog w = .ok (.bool false) w := by kernel_rfl

set_option maxRecDepth 100000 in
set_option maxHeartbeats 2000000 in
theorem maskSubsets_in (m : Nat) (hm : m < 18446744073709551616) (w : World) :
    CallsIn Fence.wide 9 Try.prog 3 #[.int .u64 m] w fun e w' => e = .returned (.bool true) ∧ Below w.heap.size w w' := by
  refine callsIn_of_wp_marks Try.func3 rfl trivial ?_ rfl
  simp only [Try.ntmps3, List.size_toArray, List.length_cons, List.length_nil, Nat.reduceAdd, Nat.reduceSub, Array.replicate_succ, Array.replicate_zero, List.push_toArray, List.append_toArray, List.nil_append, List.cons_append]
  gi_wp2_with fail
  refine ⟨trivial, callsIn_wide.2 ((of_any m _ hm).mono ?_)⟩
  rintro e w1 ⟨rfl, hB1⟩
  have hnn := subs_not_nil
  have hst := run_cells_fresh w1 m.testBit
  gi_wp2_with fail
  refine ⟨trivial, (subs_in Fence.wide 8 trivial rfl m _).mono ?_⟩
  rintro e w2 ⟨rfl, rfl⟩
  gi_wp2_with fail
  have hr0 : w.heap.size < w1.heap.size := by have := hB1.size; simp at this; omega
  have bR : Blk w1 w.heap.size #[.bool false] 4 := (Blk.new w _ _).below hB1 (by simp)
  clear hst hnn
  obtain ⟨g, hg⟩ : ∃ g, w1.heap.size = g := ⟨_, rfl⟩
  obtain ⟨n0, hn0⟩ : ∃ n0, w.heap.size = n0 := ⟨_, rfl⟩
  have bS : Blk (((w1.alloc (.cells (setC m.testBit) 24)).alloc (.cells #[.int .u64 m] 28)).alloc (.cells #[.int .u64 0] 22)) g (setC m.testBit) 24 := hg ▸ ((Blk.new w1 _ _).alloc _).alloc _
  have bM : Blk (((w1.alloc (.cells (setC m.testBit) 24)).alloc (.cells #[.int .u64 m] 28)).alloc (.cells #[.int .u64 0] 22)) (g + 1) #[.int .u64 m] 28 := by
    have := (Blk.new (w1.alloc (.cells (setC m.testBit) 24)) #[.int .u64 m] 28).alloc (.cells #[.int .u64 0] 22)
    simp only [World.size_alloc, hg] at this; exact this
  have bN : Blk (((w1.alloc (.cells (setC m.testBit) 24)).alloc (.cells #[.int .u64 m] 28)).alloc (.cells #[.int .u64 0] 22)) (g + 1 + 1) #[.int .u64 0] 22 := by
    have := Blk.new ((w1.alloc (.cells (setC m.testBit) 24)).alloc (.cells #[.int .u64 m] 28)) #[.int .u64 0] 22
    simp only [World.size_alloc, hg] at this; exact this
  have bR' := ((bR.alloc (.cells (setC m.testBit) 24)).alloc (.cells #[.int .u64 m] 28)).alloc (.cells #[.int .u64 0] 22)
  have hB : Below n0 w (((w1.alloc (.cells (setC m.testBit) 24)).alloc (.cells #[.int .u64 m] 28)).alloc (.cells #[.int .u64 0] 22)) := by
    have h1 : Below n0 w w1 := by rw [← hn0]; exact ((Below.refl _ w).alloc (Nat.le_refl _) _).trans (hB1.mono (by simp))
    exact ((h1.alloc (by omega) _).alloc (by simp; omega) _).alloc (by simp; omega) _
  have hsz : (((w1.alloc (.cells (setC m.testBit) 24)).alloc (.cells #[.int .u64 m] 28)).alloc (.cells #[.int .u64 0] 22)).heap.size = g + 3 := by simp; omega
  rw [hn0] at bR'
  rw [hg, hn0]
  rw [hg] at hr0
  generalize (((w1.alloc (.cells (setC m.testBit) 24)).alloc (.cells #[.int .u64 m] 28)).alloc (.cells #[.int .u64 0] 22)) = W0 at *
  refine wpIn_rangeFunc_ownG (Kp := Below (g + 1 + 1)) rfl (by omega) (gf := 16) (lb := #[.pointer (some ⟨g + 1, 0, none⟩)]) rfl trivial (enters_of Try.func16 (by kernel_rfl) rfl)
    (subs_stops Fence.wide 8 trivial rfl (by omega) (g + 1) (g + 1 + 1) m hm W0 (by omega) (by omega) bM.one) belowK_t (belowK_b (by omega)) (Below.refl _ _) (fun _ => rfl)
    (fun pre W => (Blk W n0 #[.bool false] 4 ∧ Blk W g (setC m.testBit) 24 ∧ Blk W (g + 1 + 1) #[.int .u64 pre.length] 22) ∧ Below n0 w W ∧ (pre = subsTo m pre.length ∧ pre.length < 300))
    (fun c pre W => Below n0 w W ∧ (pre ≠ subsTo m pre.length ∨ (c = .exit 0 ∧ pre = subsTo m pre.length ∧ pre.length = 300) ∧ Blk W n0 #[.bool false] 4 ∧ Blk W g (setC m.testBit) 24 ∧ Blk W (g + 1 + 1) #[.int .u64 (pre.length : Nat)] 22))
    ?own ?ownx ⟨⟨bR', bS, bN⟩, hB, rfl, by simp⟩
    (fun x => { tmps := #[.int .u64 m, undef, .pointer (some ⟨n0, 0, none⟩), .pointer (some ⟨g, 0, none⟩), .func (.func 16) #[] #[.pointer (some ⟨g + 1, 0, none⟩)], .pointer (some ⟨g + 1 + 1, 0, none⟩), .int .u64 x, undef, .int .u64 m, .agg (setC m.testBit), .int .u64 m, .func (.func 16) #[] #[.pointer (some ⟨g + 1, 0, none⟩)], .func (.func 16) #[] #[.pointer (some ⟨g + 1, 0, none⟩)], .bool false, .func (.func 16) #[] #[.pointer (some ⟨g + 1, 0, none⟩)], .int .u64 x, undef, undef, undef, undef, undef, undef, undef, undef, undef, undef, undef, undef, undef, undef, undef, undef, undef, undef, undef, undef, undef, undef, undef, undef, undef, undef, undef, undef, undef, undef], defers := [] }) ?assign ?body ?done ?stop
  case own =>
    rintro pre W W' row ⟨⟨h1, h2, h3⟩, hB, hp⟩ hg' hr'
    exact ⟨⟨h1.own hg' fun r e => (hr' r e).2, h2.own hg' fun r e => (hr' r e).2, h3.own hg' fun r e => (hr' r e).2⟩, hB.grown hg' (by have := hB.size; omega) (fun k e => by have := (hr' k e).1; omega), hp⟩
  case ownx =>
    rintro c pre W W' row ⟨hB, hx⟩ hg' hr'
    refine ⟨hB.grown hg' (by have := hB.size; omega) (fun k e => by have := (hr' k e).1; omega), ?_⟩
    rcases hx with hx | ⟨hx, h1, h2, h3⟩
    · exact .inl hx
    · exact .inr ⟨hx, h1.own hg' fun r e => (hr' r e).2, h2.own hg' fun r e => (hr' r e).2, h3.own hg' fun r e => (hr' r e).2⟩
  case assign =>
    intro l x W K hK
    gi_wp2
    exact hK
  case body =>
    rintro l pre x W ⟨⟨h1, h2, h3⟩, hB, hp⟩ hlt
    obtain ⟨hp1, hp2⟩ := hp
    replace hp1 := Lib.hid hp1
    have hc3 := h3.one
    have hcR := h1.one
    have hfR := h1.free 0
    have hsW := hB.size
    replace h1 := Lib.hid h1
    replace h2 := Lib.hid h2
    replace h3 := Lib.hid h3
    gi_wp2_with (refine wpListIn_load_row rfl 24 (.tmp 3) rfl g rfl 24 _ (0, 0) _ h2.out Try.underlying24 rfl (size_set _) ?_)
    refine ⟨trivial, CallsIn.inRound l (callsIn_wide.2 ((subset_any m.testBit pre.length W (by omega)).mono ?_))⟩
    rintro e W2 ⟨rfl, hB2⟩
    gi_wp2_with fail
    refine ⟨trivial, CallsIn.inRound l (callsIn_wide.2 ((word_any (subOf m.testBit pre.length) W2).mono ?_))⟩
    rintro e W3 ⟨rfl, hB3⟩
    have hB23 : Below W.heap.size W W3 := hB2.trans (hB3.mono hB2.size)
    have b1 := h1.out.below hB23 h1.out.lt
    have b2 := h2.out.below hB23 h2.out.lt
    have b3 := h3.out.below hB23 h3.out.lt
    have c1 := b1.one
    have f1 := b1.free 0
    have c3 := b3.one
    have f3 := b3.free 0
    clear hcR hfR hc3
    replace b1 := Lib.hid b1
    replace b2 := Lib.hid b2
    replace b3 := Lib.hid b3
    obtain ⟨y, hy⟩ : ∃ y, subW m pre.length = y := ⟨_, rfl⟩
    rw [show word (subOf m.testBit pre.length) = y from hy]
    have hk3 : KeepsFrom W0.heap.size W W3 := keepsFrom_below hB23 (Nat.le_refl _)
    have hB3' : Below n0 w W3 := hB.trans (hB23.mono (by omega))
    have hB3k : Below (g + 1 + 1) W W3 := hB23.mono (by have := h3.out.lt; omega)
    have hlen : (pre ++ [x]).length = pre.length + 1 := by simp
    have hgood : x = y → pre ++ [x] = subsTo m (pre ++ [x]).length := fun e => by
      rw [hlen, subsTo_succ, hy, e, ← hp1.out]
    have hbad : x ≠ y → pre ++ [x] ≠ subsTo m (pre ++ [x]).length := fun hne e => by
      rw [hlen, subsTo_succ, hy, ← hp1.out] at e
      exact hne (by simpa using e)
    replace hgood := Lib.hid hgood
    replace hbad := Lib.hid hbad
    replace hlen := Lib.hid hlen
    by_cases hxy : x = y
    · have hxy' : ((x : Int) != (y : Int)) = false := by simp [hxy]
      replace hxy := Lib.hid hxy
      by_cases h300 : pre.length + 1 = 300
      · have h300' : ((pre.length : Int) + 1 == 300) = true := by simp; omega
        replace h300 := Lib.hid h300
        gi_wp2
        refine ⟨hk3.trans ((KeepsOthers.setCell _ _ _).from _), hB3'.setCell (by simp; omega) _, .inr ⟨⟨rfl, hgood.out hxy.out, by rw [hlen.out, h300.out]⟩, ?_, ?_, ?_⟩⟩
        · exact b1.out.other (by simp; omega) _
        · exact b2.out.other (by simp; omega) _
        · rw [hlen.out]; exact b3.out.setOne _
      · have h300' : ((pre.length : Int) + 1 == 300) = false := by simp; omega
        replace h300 := Lib.hid h300
        gi_wp2
        refine ⟨hk3.trans ((KeepsOthers.setCell _ _ _).from _), hB3k.setCell (by simp) _, ⟨?_, ?_, ?_⟩, hB3'.setCell (by simp; omega) _, hgood.out hxy.out, ?_⟩
        · exact b1.out.other (by simp; omega) _
        · exact b2.out.other (by simp; omega) _
        · rw [hlen.out]; exact b3.out.setOne _
        · rw [hlen.out]; have := h300.out; omega
    · have hxy' : ((x : Int) != (y : Int)) = true := by simp; omega
      replace hxy := Lib.hid hxy
      gi_wp2
      exact ⟨hk3.trans ((KeepsOthers.setCell _ _ _).from _), hB3'.setCell (by simp) _, .inl (hbad.out hxy.out)⟩
  case done =>
    rintro D ys W hD rfl ⟨⟨h1, h2, h3⟩, hB, hp1, hp2⟩ hK
    rw [subsTo_length] at h3 hp2
    have hc8 : cnt m ≤ 8 := by
      rcases Nat.lt_or_ge 8 (cnt m) with h | h
      · have : 2 ^ 9 ≤ 2 ^ cnt m := Nat.pow_le_pow_right (by omega) h
        omega
      · exact h
    have hc3 := h3.one
    replace h1 := Lib.hid h1
    replace h3 := Lib.hid h3
    clear hp1
    gi_wp2_with (refine wpListIn_load_row rfl 24 (.tmp 3) rfl g rfl 24 _ (0, 0) _ h2.eq Try.underlying24 rfl (size_set _) ?_)
    refine ⟨trivial, callsIn_wide.2 ((numbers_any m.testBit W).mono ?_)⟩
    rintro e W2 ⟨v, rfl, hrow, hB2⟩
    obtain ⟨va, vc, rfl⟩ := ownsRow_slice hrow
    have hfew : (numsTo m.testBit 64).length = cnt m := numsTo_length _ _
    have hK2 : W2.heap[D]? = some (.deferred (some [])) := (hB2.block D (Array.getElem?_eq_some_iff.1 hK).1).trans hK
    have b1 := h1.out.below hB2 h1.out.lt
    have b3 := h3.out.below hB2 h3.out.lt
    have c1 := b1.one
    have f1 := b1.free 0
    have c3 := b3.one
    clear hc3
    replace h1 := Lib.hid h1
    replace h3 := Lib.hid h3
    replace b1 := Lib.hid b1
    replace b3 := Lib.hid b3
    replace hrow := Lib.hid hrow
    rw [hfew]
    replace hfew := Lib.hid hfew
    have hpow : (((2 : Int) ^ cnt m) == IntKind.u64.wrap (2 ^ cnt m)) = true := by
      have h1 : (2 : Nat) ^ cnt m ≤ 2 ^ 8 := Nat.pow_le_pow_right (by omega) hc8
      have h2 : ((2 ^ cnt m : Nat) : Int) = (2 : Int) ^ cnt m := by simp
      rw [IntKind.wrap_u64, ← h2]
      generalize 2 ^ cnt m = q at *
      simp; omega
    gi_wp2
    refine ⟨by simp, .inl ⟨_, _, rfl, run_takeDeferred ((KeepsOthers.setCell _ _ _).same D _ hK2 rfl), ?_⟩⟩
    exact subs_end rfl rfl ((KeepsOthers.setCell _ _ _).same D _ hK2 rfl) (b1.out.setOne _) ((hB.trans (hB2.mono (by have := hB.size; omega))).setCell (by simp) _) (by omega)
  case stop =>
    rintro D c pre W hD hpre ⟨hB, hx | ⟨⟨rfl, hp1, hp2⟩, h1, h2, h3⟩⟩ hK
    · exact absurd (subs_prefix_eq hpre) hx
    · have hc8 : 9 ≤ cnt m := by
        have hl := hpre.length_le
        rw [subsTo_length, hp2] at hl
        rcases Nat.lt_or_ge (cnt m) 9 with h | h
        · have : 2 ^ cnt m ≤ 2 ^ 8 := Nat.pow_le_pow_right (by omega) (by omega)
          omega
        · exact h
      rw [hp2] at h3
      have hc3 := h3.one
      replace h1 := Lib.hid h1
      replace h3 := Lib.hid h3
      clear hp1 hp2
      gi_wp2_with (refine wpListIn_load_row rfl 24 (.tmp 3) rfl g rfl 24 _ (0, 0) _ h2.eq Try.underlying24 rfl (size_set _) ?_)
      refine ⟨trivial, callsIn_wide.2 ((numbers_any m.testBit W).mono ?_)⟩
      rintro e W2 ⟨v, rfl, hrow, hB2⟩
      obtain ⟨va, vc, rfl⟩ := ownsRow_slice hrow
      have hfew : (numsTo m.testBit 64).length = cnt m := numsTo_length _ _
      have hle : cnt m ≤ 64 := rankTo_le _ _
      have hK2 : W2.heap[D]? = some (.deferred (some [])) := (hB2.block D (Array.getElem?_eq_some_iff.1 hK).1).trans hK
      have b1 := h1.out.below hB2 h1.out.lt
      have b3 := h3.out.below hB2 h3.out.lt
      have c1 := b1.one
      have f1 := b1.free 0
      have c3 := b3.one
      clear hc3
      replace h1 := Lib.hid h1
      replace h3 := Lib.hid h3
      replace b1 := Lib.hid b1
      replace b3 := Lib.hid b3
      replace hrow := Lib.hid hrow
      rw [hfew]
      replace hfew := Lib.hid hfew
      gi_wp2
      refine ⟨by simp, .inl ⟨_, _, rfl, run_takeDeferred ((KeepsOthers.setCell _ _ _).same D _ hK2 rfl), ?_⟩⟩
      rw [hn0]
      exact subs_end rfl rfl ((KeepsOthers.setCell _ _ _).same D _ hK2 rfl) (b1.out.setOne _) ((hB.trans (hB2.mono (by have := hB.size; omega))).setCell (by simp) _) (by omega)
end Go.Proofs.Ytmmhcfbnelggfaa
