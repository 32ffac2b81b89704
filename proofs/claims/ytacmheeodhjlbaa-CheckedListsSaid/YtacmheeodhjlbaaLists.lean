/- The walk of CheckedLists: sums and products of any list are exact, however great others on the way are. -/
import Derived.Test.YtacmheeodhjlbaaProds
import Derived.Below
import Derived.Deep.Draws
import Derived.Deep.AppendLies
import Derived.Maps.AppendAt
import Derived.OwnWalk
import Derived.Laws.BytesArg
import Derived.Laws.MakeOwn
import Derived.Laws.OwnMore
import Derived.Deep.OwnRows
import Derived.Tactics
import Derived.Lib.ConvBytes
import Derived.Laws.Slices
import Derived.WalkKit
import Derived.KernelRfl
import Derived.RowKit3
import Derived.Deep.LoopGhost
import Derived.Deep.QuietTactic
import Derived.BigQuiet
import Derived.WideLaws
import Derived.Deep.DeepCutAuto
import Derived.Deep.CutBlock
import Derived.Deep.RegionHeld3
import Derived.Laws.Rows
import Derived.Lib.AppendStr
import Derived.ArgAppend
import Derived.Laws.IdiomCopy
import Derived.OrdersHeld
import Derived.Laws.BitsLemmas
import Derived.RowKit
import Derived.Test.YtacmheeodhjlbaaWWords
import Derived.Test.YtacmheeodhjlbaaWLast
import Derived.Test.YtacmheeodhjlbaaWTab
import Derived.Test.YtacmheeodhjlbaaWFour
import Derived.Test.YtacmheeodhjlbaaWQPut
import Derived.Test.YtacmheeodhjlbaaWApart
import Derived.Test.YtacmheeodhjlbaaWArr
import Derived.Test.YtacmheeodhjlbaaWZeros
import Derived.Test.YtacmheeodhjlbaaWFoot
import Derived.Test.YtacmheeodhjlbaaWKept
import Derived.Test.YtacmheeodhjlbaaWShare
import Derived.Test.YtacmheeodhjlbaaWN
import Derived.Test.YtacmheeodhjlbaaWFootNe
import Derived.Test.YtacmheeodhjlbaaWAt
import Derived.Test.YtacmheeodhjlbaaWEqStruct
import Derived.Test.YtacmheeodhjlbaaWRepsOne
import Derived.Test.YtacmheeodhjlbaaWInv
import Derived.Test.YtacmheeodhjlbaaWInvWords
import Derived.Test.YtacmheeodhjlbaaWGuard
import Derived.Test.YtacmheeodhjlbaaWNEv
import Derived.Test.YtacmheeodhjlbaaWMore
import Derived.Deep.CutRange
namespace Go.Proofs.Ytacmheeodhjlbaa
open Go.RowKit Go.Proofs.YtacmheeodhjlbaaW.PrintWords Go.Proofs.YtacmheeodhjlbaaW.PrintLast Go.Proofs.YtacmheeodhjlbaaW.PrintMore
set_option linter.unusedVariables false
theorem info2 : (Try.prog.info? 2).map (fun i => (i.zero, i.size, i.bytes)) = some (some (.int .i64 0), 1, 8) := by kernel_rfl
theorem IntsAny.ofC {w : World} {A : Option Addr} {c : Nat} {l : List Int} (h : Kd.C (Kd.int .i64) w A l.length l) : IntsAny w (.slice A l.length c) l := by
  refine ⟨A, c, rfl, fun hp => ?_⟩
  obtain ⟨ad, e, _⟩ := Kd.at_int h 0 (by omega) (by omega)
  refine ⟨ad, e, fun i hi => ?_⟩
  obtain ⟨ad', e', hc⟩ := Kd.at_int h (i : Int) (by omega) (by omega)
  rw [e] at e'
  cases e'
  simpa [rd] using hc
theorem IntsAt.ofR {w : World} {base : Nat} {ok : Nat → Prop} {A : Option Addr} {c : Nat} {l : List Int} (h : Kd.R (Kd.int .i64) 2 w base ok (.slice A l.length c) l) : IntsAt w (.slice A l.length c) l := by
  rcases Nat.eq_zero_or_pos l.length with h0 | hp
  · have := List.eq_nil_of_length_eq_zero h0
    subst this
    exact .inl ⟨rfl, _, _, rfl⟩
  · obtain ⟨hR1, hR2, hC⟩ := Kd.R_reads' h
    obtain ⟨ad, e, _⟩ := Kd.at_int hC 0 (by omega) (by omega)
    subst e
    obtain ⟨g, rfl⟩ := Kd.R_head h
    refine .inr ⟨g, 0, c, rfl, ⟨Kd.R_lt h g rfl, hR2⟩, fun i hi => ?_⟩
    obtain ⟨ad', e', hc⟩ := Kd.at_int hC (i : Int) (by omega) (by omega)
    cases e'
    rw [Int.toNat_natCast, add_plain] at hc
    simpa [rd] using hc
theorem cut_cap {P : Program} (t e : TypeId) (kh : IntKind) {i : TypeInfo} (ht : P.underlying t = some (.slice e)) (hi : P.info? e = some i) (A : Option Addr) (n c : Nat) (j : Int) (h0 : 0 ≤ j) (hm : j ≤ c) :
    ∀ W : World, (Instr.slice t (.slice A n c) none (some (.int kh j)) none).run P W = .ok (.slice A j.toNat c) W := by
  intro W
  have hel : P.elem t = e := by simp [Program.elem, ht]
  have hu : P.underlying t = some (.slice (P.elem t)) := by rw [hel]; exact ht
  have ha : (A.map fun x => x.add 0) = A := by cases A <;> simp [Addr.add]
  rw [run_slice_h W t A n c hu kh j h0 (by omega), hel]
  simp [sizeOf, typeInfo, hi, sliced, Result.andThen, ha]
/-- What the law makes of each number between its turns. -/
def half (x : Int) : Int := Int.tdiv x 2 + 1
def mixed (gs : List Int) (j : Nat) : List Int := (gs.take j).map half ++ gs.drop j
theorem mixed_len (gs : List Int) (j : Nat) : (mixed gs j).length = gs.length := by simp [mixed]; omega
theorem mixed_get {gs : List Int} {j : Nat} (h : j < gs.length) : rd (mixed gs j ++ [77]) (j : Int) = rd gs (j : Int) := by
  have hl : ((gs.take j).map half).length = j := by rw [List.length_map, List.length_take]; omega
  simp only [rd, mixed, Int.toNat_natCast, List.getD_eq_getElem?_getD, List.append_assoc]
  rw [List.getElem?_append_right (by omega), hl, Nat.sub_self, List.drop_eq_getElem_cons h, List.cons_append, List.getElem?_cons_zero, List.getElem?_eq_getElem h]
theorem mixed_set {gs : List Int} {j : Nat} (h : j < gs.length) : (mixed gs j ++ [77]).set j (half (rd gs (j : Int))) = mixed gs (j + 1) ++ [77] := by
  have e : rd gs (j : Int) = gs[j] := by simp [rd, h]
  rw [e, List.set_append_left _ _ (by rw [mixed_len]; exact h)]
  congr 1
  unfold mixed
  have hl : ((gs.take j).map half).length = j := by rw [List.length_map, List.length_take]; omega
  rw [List.set_append_right _ _ (by omega), hl, Nat.sub_self, List.drop_eq_getElem_cons h, List.set_cons_zero, List.take_succ_eq_append_getElem h, List.map_append, List.append_assoc]
  rfl
theorem mixed_all (gs : List Int) : mixed gs gs.length = gs.map half := by simp [mixed]
theorem half_in {x : Int} (h : -9223372036854775808 ≤ x ∧ x ≤ 9223372036854775807) : -9223372036854775808 ≤ Int.tdiv x 2 ∧ Int.tdiv x 2 ≤ 4611686018427387904 ∧ -9223372036854775808 ≤ half x ∧ half x ≤ 9223372036854775807 := by
  unfold half
  rcases Int.lt_or_le x 0 with h0 | h0
  · have e : Int.tdiv x 2 = -(Int.tdiv (-x) 2) := by rw [Int.neg_tdiv, Int.neg_neg]
    rw [e, Int.tdiv_eq_ediv_of_nonneg (by omega)]; omega
  · rw [Int.tdiv_eq_ediv_of_nonneg h0]; omega
theorem addr_add (g j : Nat) : (⟨g, 0, none⟩ : Addr).add j = ⟨g, j, none⟩ := by cases j <;> simp [Addr.add]
theorem pre_C {W : World} {base g n c : Nat} {gs : List Int} (h : Kd.R (Kd.int .i64) 2 W base (fun _ => True) (.slice (some ⟨g, 0, none⟩) (n + 1) c) (gs ++ [77])) (hn : gs.length = n) : Kd.C (Kd.int .i64) W (some ⟨g, 0, none⟩) gs.length gs ∧ gs.length ≤ c := by
  have h1 := Kd.C_take (Kd.R_reads' h).2.2 (m := gs.length) (by simp)
  rw [List.take_left] at h1
  have h2 := (Kd.R_reads' h).2.1
  exact ⟨h1, by omega⟩
set_option maxHeartbeats 8000000 in
set_option maxRecDepth 100000 in
theorem lists_walk (A : Option Addr) (c : Nat) (l : List Int) (w : World) (hr : Kd.C (Kd.int .i64) w A l.length l) (hc : l.length ≤ c) (hll : l.length * 8 ≤ 140737488351232) (hw : ∀ x ∈ l, -9223372036854775808 ≤ x ∧ x ≤ 9223372036854775807) :
    Calls Try.prog 6 #[.slice A l.length c] w fun e w' => e = .returned (.bool true) ∧ Below w.heap.size w w' := by
  have HR := Aside0.mk hr
  have HC := Aside0.mk hc
  have HLL := Aside0.mk hll
  have HW := Aside0.mk hw
  have HB := Aside0.mk (Below.refl w.heap.size w)
  clear hr hc hw
  go_enter Try.func6, Try.ntmps6
  go_wp2_with (first | ((with_reducible refine gate_builtin (b := .append) (xs := #[.tmp 11, .tmp 12]) rfl ?_); (try (refine gate_guard (by rfl) ?_; dsimp only)); at_builtin; refine Kd.R_append_rows (Kd.int .i64) (w0 := w) w.heap.size rfl (.tmp 11) (.tmp 12) 31 2 (.int .i64 0) 8 rfl Try.underlying31 info2 rfl (by decide) (by omega) (.slice none 0 0) ([] : List Int) l _ _ _ (fun _ => True) (fun _ => False) rfl rfl ?aO ?aR (fun _ _ h => h) (fun _ h => h.elim) ?aF ?aB ?aS ?aL ?_; (case aR => exact HR.out); (case aB => exact (by repeat (first | (with_reducible first | exact HB.out | apply below_alloc | apply pw_below_drewN | apply below_drew1) | exact HB.out))); (case aF => exact (fun _ _ => trivial)); (case aO => exact (Kd.R_nil _ _ _ _ (fun _ => True))); (case aS => exact (below_size (by repeat (first | (with_reducible first | exact HB.out | apply below_alloc | apply pw_below_drewN | apply below_drew1) | exact HB.out)))); (case aL => have := HLL.out; simp; omega); intro v1 w2 ho hb hg hat; simp only [List.nil_append] at ho; have HL := Aside0.mk ho; clear HB; have HB := Aside0.mk hb; clear ho hb hg hat) | ((with_reducible refine gate_builtin (b := .append) (xs := #[.tmp 13, .tmp 14]) rfl ?_); (try (refine gate_guard (by rfl) ?_; dsimp only)); at_builtin; refine Kd.R_append (Kd.int .i64) (w0 := w) w.heap.size rfl (.tmp 13) (.tmp 14) 31 2 (.int .i64 0) 8 rfl Try.underlying31 info2 rfl (by decide) (by omega) v1 l 77 [.int .i64 77] (fun _ => True) (fun _ => False) rfl rfl ?aP (fun _ hk => hk.elim) ?aF ?aO ?aB ?aS ?aL ?_; (case aP => exact rfl); (case aB => exact (by repeat (first | (with_reducible first | exact HB.out | apply below_alloc | apply pw_below_drewN | apply below_drew1) | exact HB.out))); (case aF => exact (fun _ _ => trivial)); (case aO => exact HL.out); (case aS => exact (below_size (by repeat (first | (with_reducible first | exact HB.out | apply below_alloc | apply pw_below_drewN | apply below_drew1) | exact HB.out)))); (case aL => have := HLL.out; omega); intro v2 w3 ho hb hg hat; (obtain ⟨A2, c2, rfl⟩ := Kd.R_slice ho); have HG := Aside0.mk ho; clear HB HL; have HB := Aside0.mk hb; clear ho hb hg hat; (have hlen2 : (l ++ [77]).length = l.length + 1 := by simp); (obtain ⟨i0, hi0, _, hsz0, _⟩ := info_parts info2); (have hcut := cut_cap (P := Try.prog) 31 2 .i64 Try.underlying31 hi0 A2 (l.length + 1) c2 (l.length : Int) (by omega) (by have := (Kd.R_reads' HG.out).2.1; omega)); (rw [Int.toNat_natCast] at hcut); (rw [hlen2] at HG)))
  repeat (go_quiet (first | ((with_reducible refine gate_builtin (b := .append) (xs := #[.tmp 11, .tmp 12]) rfl ?_); (try (refine gate_guard (by rfl) ?_; dsimp only)); at_builtin; refine Kd.R_append_rows (Kd.int .i64) (w0 := w) w.heap.size rfl (.tmp 11) (.tmp 12) 31 2 (.int .i64 0) 8 rfl Try.underlying31 info2 rfl (by decide) (by omega) (.slice none 0 0) ([] : List Int) l _ _ _ (fun _ => True) (fun _ => False) rfl rfl ?aO ?aR (fun _ _ h => h) (fun _ h => h.elim) ?aF ?aB ?aS ?aL ?_; (case aR => exact HR.out); (case aB => exact (by repeat (first | (with_reducible first | exact HB.out | apply below_alloc | apply pw_below_drewN | apply below_drew1) | exact HB.out))); (case aF => exact (fun _ _ => trivial)); (case aO => exact (Kd.R_nil _ _ _ _ (fun _ => True))); (case aS => exact (below_size (by repeat (first | (with_reducible first | exact HB.out | apply below_alloc | apply pw_below_drewN | apply below_drew1) | exact HB.out)))); (case aL => have := HLL.out; simp; omega); intro v1 w2 ho hb hg hat; simp only [List.nil_append] at ho; have HL := Aside0.mk ho; clear HB; have HB := Aside0.mk hb; clear ho hb hg hat) | ((with_reducible refine gate_builtin (b := .append) (xs := #[.tmp 13, .tmp 14]) rfl ?_); (try (refine gate_guard (by rfl) ?_; dsimp only)); at_builtin; refine Kd.R_append (Kd.int .i64) (w0 := w) w.heap.size rfl (.tmp 13) (.tmp 14) 31 2 (.int .i64 0) 8 rfl Try.underlying31 info2 rfl (by decide) (by omega) v1 l 77 [.int .i64 77] (fun _ => True) (fun _ => False) rfl rfl ?aP (fun _ hk => hk.elim) ?aF ?aO ?aB ?aS ?aL ?_; (case aP => exact rfl); (case aB => exact (by repeat (first | (with_reducible first | exact HB.out | apply below_alloc | apply pw_below_drewN | apply below_drew1) | exact HB.out))); (case aF => exact (fun _ _ => trivial)); (case aO => exact HL.out); (case aS => exact (below_size (by repeat (first | (with_reducible first | exact HB.out | apply below_alloc | apply pw_below_drewN | apply below_drew1) | exact HB.out)))); (case aL => have := HLL.out; omega); intro v2 w3 ho hb hg hat; (obtain ⟨A2, c2, rfl⟩ := Kd.R_slice ho); have HG := Aside0.mk ho; clear HB HL; have HB := Aside0.mk hb; clear ho hb hg hat; (have hlen2 : (l ++ [77]).length = l.length + 1 := by simp); (obtain ⟨i0, hi0, _, hsz0, _⟩ := info_parts info2); (have hcut := cut_cap (P := Try.prog) 31 2 .i64 Try.underlying31 hi0 A2 (l.length + 1) c2 (l.length : Int) (by omega) (by have := (Kd.R_reads' HG.out).2.1; omega)); (rw [Int.toNat_natCast] at hcut); (rw [hlen2] at HG))); try go_wp2_with (first | ((with_reducible refine gate_builtin (b := .append) (xs := #[.tmp 11, .tmp 12]) rfl ?_); (try (refine gate_guard (by rfl) ?_; dsimp only)); at_builtin; refine Kd.R_append_rows (Kd.int .i64) (w0 := w) w.heap.size rfl (.tmp 11) (.tmp 12) 31 2 (.int .i64 0) 8 rfl Try.underlying31 info2 rfl (by decide) (by omega) (.slice none 0 0) ([] : List Int) l _ _ _ (fun _ => True) (fun _ => False) rfl rfl ?aO ?aR (fun _ _ h => h) (fun _ h => h.elim) ?aF ?aB ?aS ?aL ?_; (case aR => exact HR.out); (case aB => exact (by repeat (first | (with_reducible first | exact HB.out | apply below_alloc | apply pw_below_drewN | apply below_drew1) | exact HB.out))); (case aF => exact (fun _ _ => trivial)); (case aO => exact (Kd.R_nil _ _ _ _ (fun _ => True))); (case aS => exact (below_size (by repeat (first | (with_reducible first | exact HB.out | apply below_alloc | apply pw_below_drewN | apply below_drew1) | exact HB.out)))); (case aL => have := HLL.out; simp; omega); intro v1 w2 ho hb hg hat; simp only [List.nil_append] at ho; have HL := Aside0.mk ho; clear HB; have HB := Aside0.mk hb; clear ho hb hg hat) | ((with_reducible refine gate_builtin (b := .append) (xs := #[.tmp 13, .tmp 14]) rfl ?_); (try (refine gate_guard (by rfl) ?_; dsimp only)); at_builtin; refine Kd.R_append (Kd.int .i64) (w0 := w) w.heap.size rfl (.tmp 13) (.tmp 14) 31 2 (.int .i64 0) 8 rfl Try.underlying31 info2 rfl (by decide) (by omega) v1 l 77 [.int .i64 77] (fun _ => True) (fun _ => False) rfl rfl ?aP (fun _ hk => hk.elim) ?aF ?aO ?aB ?aS ?aL ?_; (case aP => exact rfl); (case aB => exact (by repeat (first | (with_reducible first | exact HB.out | apply below_alloc | apply pw_below_drewN | apply below_drew1) | exact HB.out))); (case aF => exact (fun _ _ => trivial)); (case aO => exact HL.out); (case aS => exact (below_size (by repeat (first | (with_reducible first | exact HB.out | apply below_alloc | apply pw_below_drewN | apply below_drew1) | exact HB.out)))); (case aL => have := HLL.out; omega); intro v2 w3 ho hb hg hat; (obtain ⟨A2, c2, rfl⟩ := Kd.R_slice ho); have HG := Aside0.mk ho; clear HB HL; have HB := Aside0.mk hb; clear ho hb hg hat; (have hlen2 : (l ++ [77]).length = l.length + 1 := by simp); (obtain ⟨i0, hi0, _, hsz0, _⟩ := info_parts info2); (have hcut := cut_cap (P := Try.prog) 31 2 .i64 Try.underlying31 hi0 A2 (l.length + 1) c2 (l.length : Int) (by omega) (by have := (Kd.R_reads' HG.out).2.1; omega)); (rw [Int.toNat_natCast] at hcut); (rw [hlen2] at HG))))
  obtain ⟨ad, eA, _⟩ := Kd.at_int (Kd.R_reads' HG.out).2.2 0 (by omega) (by rw [hlen2]; omega)
  subst eA
  obtain ⟨g, rfl⟩ := Kd.R_head HG.out
  clear hcut
  go_loopw [4] (fun v4 wr => ∃ (t : Nat) (gs : List Int), v4 = .int .i64 (t : Nat) ∧ Aside0 (gs.length = l.length) ∧ Aside0 (∀ x ∈ gs, -9223372036854775808 ≤ x ∧ x ≤ 9223372036854775807) ∧ Aside0 (Kd.R (Kd.int .i64) 2 wr w.heap.size (fun _ => True) (.slice (some ⟨g, 0, none⟩) (l.length + 1) c2) (gs ++ [77])) ∧ Aside0 (Below w.heap.size w wr)) (fun v4 _ => 2 - (intOf v4).toNat)
  case atStart =>
    exact ⟨0, l, rfl, ⟨rfl⟩, HW, HG, HB⟩
  case round =>
    clear HG HB
    obtain ⟨t, gs, rfl, HGL, HGW, HG, HB⟩ := hrel
    by_cases ht : t < 2
    · obtain ⟨s, e, hs⟩ := told_tup gs.sum
      obtain ⟨p, f, hp⟩ := told_tup (prodZ gs)
      have hgn : gs.length ≤ 17592186044416 := by rw [HGL.out]; omega
      have S1 := Aside0.mk (fun W v hv => sum_any gs v W hv HGW.out hgn)
      have S2 := Aside0.mk (fun W v hv => refSum_any gs v W hv HGW.out hgn)
      have P1 := Aside0.mk (fun W v hv => product_any gs v W hv HGW.out hgn)
      have P2 := Aside0.mk (fun W v hv => refProduct_any gs v W hv HGW.out hgn)
      rw [hs] at S1 S2
      rw [hp] at P1 P2
      clear hs hp hgn
      have ht' : (t : Int) < 2 := by omega
      have hGC : Kd.C (Kd.int .i64) wr (some ⟨g, 0, none⟩) gs.length gs := (pre_C HG.out HGL.out).1
      rw [HGL.out] at hGC
      replace hGC := Aside0.mk hGC
      go_wp2_with (first | ((with_reducible refine gate_builtin (b := .append) (xs := #[.tmp 24, .tmp 25]) rfl ?_); (try (refine gate_guard (by rfl) ?_; dsimp only)); at_builtin; refine Kd.R_append_rows (Kd.int .i64) (w0 := w) w.heap.size rfl (.tmp 24) (.tmp 25) 31 2 (.int .i64 0) 8 rfl Try.underlying31 info2 rfl (by decide) (by omega) (.slice none 0 0) ([] : List Int) gs _ _ _ (fun k_ => k_ ≠ g) (fun _ => False) rfl rfl ?aO ?aR (fun _ _ h => h) (fun _ h => h.elim) ?aF ?aB ?aS ?aL ?_; (case aR => exact hGC.out); (case aB => exact (by repeat (first | (with_reducible first | exact HB.out | apply below_alloc | apply pw_below_drewN | apply below_drew1) | exact HB.out))); (case aF => exact (fun k_ hk => by have := Kd.R_lt HG.out g rfl; omega)); (case aO => exact (Kd.R_nil _ _ _ _ _)); (case aS => exact (below_size (by repeat (first | (with_reducible first | exact HB.out | apply below_alloc | apply pw_below_drewN | apply below_drew1) | exact HB.out)))); (case aL => have := HLL.out; simp; omega); intro v5 w5 ho hb hg hat; simp only [List.nil_append] at ho; (have hg5 := Kd.R_grown HG.out hg (fun _ _ h_ => by cases h_)); clear HG HB; have HG := Aside0.mk hg5; (obtain ⟨A3, c3, rfl⟩ := Kd.R_slice ho); have HI := Aside0.mk ho; have HB := Aside0.mk hb; clear hg5 ho hb hg hat))
      have hcall := S1.out w5 (.slice (some ⟨g, 0, none⟩) gs.length c2) (IntsAny.ofC (pre_C HG.out HGL.out).1)
      rw [HGL.out] at hcall
      refine hcall.mono ?_
      clear hcall
      rintro e_ w6 ⟨rfl, rfl⟩
      go_wp2_with fail
      refine (S2.out _ _ (IntsAt.ofR HI.out)).mono ?_
      rintro e_ w8 ⟨rfl, hb8⟩
      replace HG := Aside0.mk (Kd.R_below HG.out hb8)
      replace HI := Aside0.mk (Kd.R_below HI.out hb8)
      replace HB := Aside0.mk (below_step HB.out hb8)
      clear hb8
      go_wp2_with fail
      have hcall := P1.out w8 (.slice (some ⟨g, 0, none⟩) gs.length c2) (IntsAny.ofC (pre_C HG.out HGL.out).1)
      rw [HGL.out] at hcall
      refine hcall.mono ?_
      clear hcall
      rintro e_ w9 ⟨rfl, rfl⟩
      go_wp2_with fail
      refine (P2.out _ _ (IntsAt.ofR HI.out)).mono ?_
      rintro e_ w11 ⟨rfl, hb11⟩
      replace HG := Aside0.mk (Kd.R_below HG.out hb11)
      replace HI := Aside0.mk (Kd.R_below HI.out hb11)
      replace HB := Aside0.mk (below_step HB.out hb11)
      clear hb11
      have hcut := cut_cap (P := Try.prog) 31 2 .i64 Try.underlying31 hi0 (some ⟨g, 0, none⟩) l.length c2 ((l.length : Int) + 1) (by omega) (by have := (Kd.R_reads' HG.out).2.1; omega)
      rw [show ((l.length : Int) + 1).toNat = l.length + 1 by omega] at hcut
      have hwl : IntKind.i64.wrap ((l.length : Int) + 1) = (l.length : Int) + 1 := by rw [IntKind.wrap_i64]; omega
      have hwl2 : wrap64 ((l.length : Int) + 1) = (l.length : Int) + 1 := by unfold wrap64; omega
      obtain ⟨ad7, e7, hx7⟩ := Kd.at_int (Kd.R_reads' HG.out).2.2 (l.length : Int) (by omega) (by rw [List.length_append, HGL.out, List.length_singleton]; omega)
      cases e7
      have hr77 : rd (gs ++ [77]) (l.length : Int) = 77 := by rw [← HGL.out]; simp [rd]
      rw [hr77, Int.toNat_natCast] at hx7
      rw [show (⟨g, 0, none⟩ : Addr).add l.length = ⟨g, l.length, none⟩ from addr_add g l.length] at hx7
      go_wp2_with fail
      clear hx7 hcut hGC
      go_loopw [10] (fun v10 wi => ∃ j : Nat, v10 = .int .i64 (j : Nat) ∧ Aside0 (j ≤ l.length) ∧ Aside0 (Kd.R (Kd.int .i64) 2 wi w.heap.size (fun _ => True) (.slice (some ⟨g, 0, none⟩) (l.length + 1) c2) (mixed gs j ++ [77])) ∧ Aside0 (Kd.R (Kd.int .i64) 2 wi w.heap.size (fun k_ => k_ ≠ g) (.slice A3 gs.length c3) gs) ∧ Aside0 (Below w.heap.size w wi)) (fun v10 _ => l.length - (intOf v10).toNat)
      case atStart =>
        exact ⟨0, rfl, ⟨Nat.zero_le _⟩, ⟨by simpa [mixed] using HG.out⟩, HI, HB⟩
      case round =>
        clear HG HI HB
        obtain ⟨j, rfl, HJ, HG, HI, HB⟩ := hrel
        by_cases hj : j < l.length
        · have hjg : j < gs.length := by rw [HGL.out]; exact hj
          obtain ⟨ad8, e8, hx8⟩ := Kd.at_int (Kd.R_reads' HG.out).2.2 (j : Int) (by omega) (by rw [List.length_append, mixed_len, HGL.out, List.length_singleton]; omega)
          cases e8
          rw [mixed_get hjg, Int.toNat_natCast, addr_add] at hx8
          obtain ⟨ad9, e9, hx9⟩ := Kd.at_int (Kd.R_reads' HI.out).2.2 (j : Int) (by omega) (by omega)
          cases e9
          rw [Int.toNat_natCast] at hx9
          have hlen3 : gs.length = l.length := HGL.out
          have hxb := HGW.out (rd gs (j : Int)) (by simp [rd, hjg])
          obtain ⟨b1, b2, b3, b4⟩ := half_in hxb
          have q1 : IntKind.i64.wrap (Int.tdiv (rd gs (j : Int)) 2) = Int.tdiv (rd gs (j : Int)) 2 := by rw [IntKind.wrap_i64]; omega
          have q2 : IntKind.i64.wrap (Int.tdiv (rd gs (j : Int)) 2 + 1) = Int.tdiv (rd gs (j : Int)) 2 + 1 := by rw [IntKind.wrap_i64]; unfold half at b3 b4; omega
          have hj1 : (j : Int) < (l.length : Int) := by omega
          have hj2 : (j : Int) < (gs.length : Int) := by omega
          have hj0 : (0 : Int) ≤ (j : Int) := by omega
          have hfz : wr.frozen? ⟨g, j, none⟩ = false := by
            obtain ⟨inner, hown⟩ := Kd.R_own HG.out
            rcases hown.2 with ⟨h, _⟩ | ⟨g', cap, cur, hv, hb, hh, _⟩
            · cases h
            · injection hv with e1 _ _
              injection e1 with e1
              injection e1 with e1 _ _
              subst e1
              exact frozen_of_row _ _ j _ _ hh
          have hgb : w.heap.size ≤ g := Kd.R_base HG.out g rfl
          clear hlen3 b1 b2 b3 b4 hxb
          go_wp2_with fail
          go_quiet (fail)
          rename_i nq
          replace hx8 : (wr.drewN nq).cell? ⟨g, j, none⟩ = some (.int .i64 (rd gs (j : Int))) := hx8
          replace hx9 : (wr.drewN nq).cell? (ad9.add j) = some (.int .i64 (rd gs (j : Int))) := hx9
          replace hfz : (wr.drewN nq).frozen? ⟨g, j, none⟩ = false := hfz
          replace HG := Aside0.mk (Kd.R_drewN HG.out nq)
          replace HI := Aside0.mk (Kd.R_drewN HI.out nq)
          replace HB := Aside0.mk (pw_below_drewN HB.out nq)
          generalize wr.drewN nq = wi at *
          go_wp2_with fail
          go_roundw
          case rel =>
            refine ⟨j + 1, by go_num, ⟨hj⟩, ⟨?_⟩, ⟨?_⟩, ⟨HB.out.setCell (by exact hgb) _⟩⟩
            · have h5 := Kd.R_putn HG.out (j : Int) (half (rd gs (j : Int)))
              rw [Int.toNat_natCast, mixed_set hjg] at h5
              exact h5
            · exact Kd.R_far HI.out (fun k_ hk => hk) _
          case measure => simp [intOf]; omega
        · have hje : j = l.length := by have := HJ.out; omega
          have hj1 : ¬ (j : Int) < (gs.length : Int) := by rw [HGL.out]; omega
          have hall : mixed gs j = gs.map half := by rw [hje, ← HGL.out]; exact mixed_all gs
          clear hje
          rw [hall] at HG
          go_wp2_with fail
          go_roundw
          case rel =>
            refine ⟨t + 1, gs.map half, by go_num, ⟨by rw [List.length_map]; exact HGL.out⟩, ⟨?_⟩, HG, HB⟩
            · intro x hx
              obtain ⟨y, hy, rfl⟩ := List.mem_map.1 hx
              have := half_in (HGW.out y hy)
              exact ⟨this.2.2.1, this.2.2.2⟩
          case measure => simp [intOf]; omega
    · have ht' : ¬ (t : Int) < 2 := by omega
      go_wp2_with fail
      go_ret
      exact ⟨rfl, HB.out⟩
end Go.Proofs.Ytacmheeodhjlbaa
