/- The queue's grow. -/
import Derived.Test.YtcekipbjimbinaaMore
import Derived.Test.YtcekipbjimbinaaTake
import Derived.Sort.CutIn
namespace Go.Proofs.Ytcekipbjimbinaa
open Go.RowKit Go.Shelf
attribute [local go_sem] Oper.semAt_some
variable {P : Pl}

theorem items_fill (its : List (Int × Int)) (m : Nat) (h : its.length < m) : items (fill m its) 0 its.length = its := by
  refine list_pairs (items_length _ _ _) fun i hi => ?_
  rw [items_length] at hi
  rw [items_at _ _ _ _ hi, fill_length m its (by omega), Nat.zero_add, Nat.mod_eq_of_lt (by omega)]
  simp [fill, List.getD, List.getElem?_append_left hi]
/-- 'append' whose run is known. -/
theorem wpListIn_append_run {F : Fence} {n : Nat} {P : Program} (w : World) {ops : Array Oper} {rest : List Oper} {o : Oper} {a : Act} {Q : Exit → Act → World → Prop}
    (hg : o.guard = none) (s x : Operand) (t : TypeId) (hop : o.op = Op.call { callee := Callee.builtin Builtin.append, args := #[s, x], argTypes := #[t, t] }) (v u : Value) (hs : a.eval s = v) (hx : a.eval x = u)
    (R : Value → World → Prop) (hrun : ∃ v' w', (Builtin.append_ #[t, t] o.type #[v, u]).run P w = .ok v' w' ∧ R v' w') (hK : ∀ v' w', R v' w' → wpListIn F n P ops Q rest (a.put o.dst v') w') :
    wpListIn F n P ops Q (o :: rest) a w := by
  refine wpListIn_plain hg fun K hK' => ?_
  obtain ⟨v', w', hrun, r⟩ := hrun
  unfold Oper.wpIn
  refine ⟨?_, ?_⟩
  · simp [Oper.about, hop, resolve, Target.leads, Sem.run_pure]
  · rw [Oper.semAt_plain F _ _ (by rw [hop]; intro c hc'; cases hc')]
    simp [execOp, hop, resolve, invoke, builtin, hs, hx, hrun, Result.andThen]
    exact hK' _ _ (hK v' w' r)
theorem grownBy_setRow (w : World) (g : Nat) (cs : Array Value) : w.grownBy (w.setRow g cs) (some g) := ⟨rfl, rfl, rfl, by simp, fun k _ hk => setRow_other w g k cs (fun e => hk (by rw [e]))⟩
set_option maxRecDepth 100000 in
set_option maxHeartbeats 2000000 in
theorem grow_in (N : Nat) (hN : 4 ≤ N) {B : Nat} {w : World} {p : Nat} {rv : Value} {rs : List (Int × Int)} {fr n : Nat} {most last : Int} (h : Que P B w p rv rs fr n most last) (hroom : (n : Int) < most) (hsm : 2 * n + 2 ≤ 8796093022208) (hB : B ≤ w.heap.size) :
    CallsIn Fence.wide N Try.prog 27 #[.pointer (some ⟨p, 0, none⟩)] w fun e w' => (∃ v, e = .returned v) ∧ ∃ g m, n < m ∧ m ≤ 2 * n + 2 ∧ (m = 2 * n + 2 ∨ (m : Int) = most) ∧ w.heap.size ≤ g ∧ Que P B w' p (.slice (some ⟨g, 0, none⟩) m m) (fill m (items rs fr n)) 0 n most last ∧ Only (fun k => k = p) w w' := by
  obtain ⟨i0, hi, hz0, hz1, hz2⟩ := info_parts info_row
  obtain ⟨m, hm1, hm2, hm3, hmm⟩ : ∃ m : Nat, n < m ∧ m ≤ 2 * n + 2 ∧ (m = 2 * n + 2 ∨ (m : Int) = most) ∧ min most (2 * (n : Int) + 2) = (m : Int) := ⟨(min most (2 * (n : Int) + 2)).toNat, by omega, by omega, by omega, by omega⟩
  have hc := h.cells
  refine callsIn_of_wp_marks Try.func27 rfl trivial ?_ rfl
  simp only [Try.ntmps27, List.size_toArray, List.length_cons, List.length_nil, Nat.reduceAdd, Nat.reduceSub, Array.replicate_succ, Array.replicate_zero, List.push_toArray, List.append_toArray, List.nil_append, List.cons_append]
  gi_wp2_with fail
  have w1 : IntKind.i64.wrap (2 * (n : Int)) = 2 * (n : Int) := IntWalk.i64_in _ (by omega)
  have w2 : IntKind.i64.wrap (2 * (n : Int) + 2) = 2 * (n : Int) + 2 := IntWalk.i64_in _ (by omega)
  have w3 : IntKind.i64.wrap (m : Int) = (m : Int) := IntWalk.i64_in _ (by omega)
  have n1 : ¬ (m : Int) < 0 := by omega
  have n2 : ¬ (281474976710656 < 16 * (m : Int)) := by omega
  have n3 : (0 : Int) ≤ (m : Int) := by omega
  obtain ⟨d0, d1, d2, d3, d4⟩ := hc
  have hmin : (if 2 * (n : Int) + 2 < most then 2 * (n : Int) + 2 else most) = (m : Int) := by
    rw [← hmm]; split <;> omega
  have hmk : ∀ W : World, (Instr.makeSlice 73 (.int .i64 0) (.int .i64 (m : Int))).run Try.prog W = .ok (.slice (some ⟨W.heap.size, 0, none⟩) 0 m) (W.alloc (.cells (flat P (fill m [])).toArray 78)) := fun W => make_rows W m (by omega)
  have hplt : p < w.heap.size := h.blk.lt
  have e2 : ((w.alloc (Obj.cells #[.slice none 0 0] 73)).drew).cell? ⟨p, 2, none⟩ = some (.int .i64 n) := (h.blk.alloc (Obj.cells #[.slice none 0 0] 73)).cell rfl
  have e3 : ((w.alloc (Obj.cells #[.slice none 0 0] 73)).drew).cell? ⟨p, 3, none⟩ = some (.int .i64 most) := (h.blk.alloc (Obj.cells #[.slice none 0 0] 73)).cell rfl
  clear hmm
  have hbig := Lib.hid (show (n : Int) < most ∧ B ≤ w.heap.size ∧ n < m ∧ m ≤ 2 * n + 2 ∧ 2 * n + 2 ≤ 8796093022208 ∧ (m = 2 * n + 2 ∨ (m : Int) = most) from ⟨hroom, hB, hm1, hm2, hsm, hm3⟩)
  clear hroom hB hm1 hm2 hm3 hsm
  replace h := Lib.hid h
  have hBx : ∀ o : Obj, ∀ o' : Obj, Below w.heap.size w ((w.alloc o).alloc o').drew := fun o o' => (((Below.refl _ w).alloc (Nat.le_refl _) o).alloc (by simp) o').drew
  gi_cut [2] from 4 (fun s2 w' => ∃ bx g, s2 = .pointer (some ⟨bx, 0, none⟩) ∧ bx ≠ g ∧ w.heap.size ≤ bx ∧ w.heap.size ≤ g ∧ Boxed w' bx 73 (.slice (some ⟨g, 0, none⟩) 0 m) ∧ Blk w' g (flat P (fill m [])).toArray 78 ∧ Below w.heap.size w w')
  case first =>
    replace hBx := Lib.hid hBx
    refine wpIn_wide.2 ?_
    go_region
    all_goals
      gi_wp2
      gi_meet
      case rel =>
        first
        | exact ⟨w.heap.size, w.heap.size + 1, rfl, by omega, Nat.le_refl _, by omega, (Boxed.new w 73 (.slice (some ⟨w.heap.size + 1, 0, none⟩) 0 m)).alloc _, by have := Blk.new (w.alloc (.cells #[.slice (some ⟨w.heap.size + 1, 0, none⟩) 0 m] 73)) (flat P (fill m [])).toArray 78; rw [World.size_alloc] at this; exact this, hBx.out _ _⟩
        | exact ⟨w.heap.size + 1, w.heap.size, rfl, by omega, by omega, Nat.le_refl _, by have := Boxed.new (w.alloc (.cells (flat P (fill m [])).toArray 78)) 73 (.slice (some ⟨w.heap.size, 0, none⟩) 0 m); rw [World.size_alloc] at this; exact this, (Blk.new w (flat P (fill m [])).toArray 78).alloc _, hBx.out _ _⟩
  obtain ⟨bx, g, rfl, hbg, hbx, hgw, hBox, hBlk, hBel⟩ := hcut
  gi_wp2_with fail
  refine ⟨trivial, fun _ => by omega, (rows_in (N - 1) p wc).mono ?_⟩
  rintro e w3 ⟨rfl, rfl⟩
  gi_wp2_with fail
  have hQ := h.out
  have hits : (items rs fr n).length = n := items_length _ _ _
  have hsz : w.heap.size ≤ wc.heap.size := hBel.size
  have hgl := hBlk.lt
  have hbl := hBox.lt
  have hn0 : (wc.alloc (.cells #[.pointer (some ⟨p, 0, none⟩)] 53)).heap.size = wc.heap.size + 1 := by simp
  have hK0 : Below w.heap.size w (wc.alloc (.cells #[.pointer (some ⟨p, 0, none⟩)] 53)) := hBel.alloc hsz _
  have hBn : (wc.alloc (.cells #[.pointer (some ⟨p, 0, none⟩)] 53)).cell? ⟨wc.heap.size, 0, none⟩ = some (.pointer (some ⟨p, 0, none⟩)) := (Blk.new wc #[.pointer (some ⟨p, 0, none⟩)] 53).cell rfl
  have hBox1 := hBox.alloc (.cells #[.pointer (some ⟨p, 0, none⟩)] 53)
  have hBlk1 := hBlk.alloc (.cells #[.pointer (some ⟨p, 0, none⟩)] 53)
  clear e2 e3 hmk hmin hBx hBel
  generalize wc.alloc (.cells #[.pointer (some ⟨p, 0, none⟩)] 53) = wq at *
  refine wpIn_rangeFunc_ownH (w0 := wq) rfl (by omega) (gf := 37) (lb := #[.pointer (some ⟨wc.heap.size, 0, none⟩)]) rfl trivial (enters_of Try.func37 (by kernel_rfl) rfl)
    (rows_stops (N - 1) (by omega) wc.heap.size w.heap.size p (items rs fr n) wq (by omega) (by omega) hBn (hQ.below hK0) hQ.blk.lt (fun k e => (hQ.ringLt k e).2) rfl) (fun h1 h2 => h1.trans h2) ?kb (Below.refl _ _) (fun _ => rfl)
    (fun pre W => (Boxed W bx 73 (.slice (some ⟨g, 0, none⟩) pre.length m) ∧ Blk W g (flat P (fill m pre)).toArray 78) ∧ KpQ w.heap.size wc.heap.size wq W)
    (fun _ _ _ => False) ?hI (fun _ _ _ _ _ hs _ _ => hs) ⟨⟨hBox1, hBlk1⟩, KpQ.refl _ _ _⟩
    (fun x a' W => ∃ b, a' = { tmps := #[.pointer (some ⟨p, 0, none⟩), undef, .pointer (some ⟨bx, 0, none⟩), .pointer (some ⟨b, 0, none⟩), u4, u5, u6, u7, u8, u9, u10, u11, u12, u13, u14, u15, .pointer (some ⟨p, 0, none⟩), .func (.func 37) #[] #[.pointer (some ⟨wc.heap.size, 0, none⟩)], rowV P x, u19, u20, u21, u22, u23, u24, u25, u26, u27, u28, u29, u30, u31, u32], defers := [] } ∧ Blk W b #[.int .i64 x.1, .slice (P.A x.2) (P.L x.2) (P.C x.2)] 78 ∧ wq.heap.size ≤ b) ?hAx ?assign ?body ?done ?stop
  case kb =>
    intro W l o o' hl h1 h2 h3
    exact ⟨⟨rfl, rfl, rfl, by simp, fun k hk => World.putObj_heap_other (by omega)⟩, World.putObj_heap_other (by omega)⟩
  case hI =>
    rintro pre W W' row ⟨⟨h1, h2⟩, h3⟩ hg hr
    have hs := h3.1.size
    refine ⟨⟨h1.kept hg (fun e => ?_), h2.own hg (fun r e => (hr r e).2)⟩, ⟨h3.1.grown hg (by omega) (fun k e => by have := (hr k e).1; omega), (hg.block _ (by omega) (fun e => by have := (hr _ e.symm).1; omega)).trans h3.2⟩⟩
    obtain ⟨o, ho, hc⟩ := (hr bx e.symm).2
    rw [show W.heap[bx]? = _ from h1] at ho; cases ho; cases hc
  case hAx =>
    rintro x a' _ W W' row ⟨b, h1, h2, h3⟩ hg hr
    exact ⟨b, h1, h2.own hg (fun r e => (hr r e).2), h3⟩
  case assign =>
    rintro l pre ⟨xa, xb⟩ W K ⟨⟨h1, h2⟩, h3⟩ hK
    have hs := h3.1.size
    have fin := hK _ (W.alloc (.cells #[.int .i64 xa, .slice (P.A xb) (P.L xb) (P.C xb)] 78)) ((KeepsOthers.alloc W _).from _) ⟨(Below.refl _ W).alloc (by omega) _, Below.heap_alloc _ _ _ (by omega)⟩ ⟨⟨h1.alloc _, h2.alloc _⟩, h3.trans ⟨(Below.refl _ W).alloc (by omega) _, Below.heap_alloc _ _ _ (by omega)⟩⟩ ⟨W.heap.size, rfl, Blk.new W _ _, by have := h3.1.size; omega⟩
    simp only [rowV] at fin ⊢
    gi_wp2
    exact fin
  case body =>
    rintro l pre ⟨xa, xb⟩ a' W hl _ ⟨⟨h1, h2⟩, h3⟩ ⟨b, rfl, hxb, hSb⟩ hlt
    have hs := h3.1.size
    have c1 := h1.cell
    have f1 := h1.frozen
    have c2 : W.cell? ⟨b, 0, none⟩ = some (.int .i64 xa) := hxb.cell rfl
    have c3 : W.cell? ⟨b, 1, none⟩ = some (.slice (P.A xb) (P.L xb) (P.C xb)) := hxb.cell rfl
    have hnewc : Blk (W.alloc (.cells #[.int .i64 xa, .slice (P.A xb) (P.L xb) (P.C xb)] 78)) W.heap.size #[.int .i64 xa, .slice (P.A xb) (P.L xb) (P.C xb)] 78 := Blk.new W _ _
    have hap := append_row (W.alloc (.cells #[.int .i64 xa, .slice (P.A xb) (P.L xb) (P.C xb)] 78)) g m pre (xa, xb) (h2.alloc _) (by have := hbig.out; omega) ⟨W.heap.size, 0, none⟩ (hnewc.cell rfl) (hnewc.cell rfl) 73
    have hap2 : ∃ v' w', (Builtin.append_ #[73, 73] 73 #[.slice (some ⟨g, 0, none⟩) pre.length m, .slice (some ⟨W.heap.size, 0, none⟩) 1 1]).run Try.prog (W.alloc (.cells #[.int .i64 xa, .slice (P.A xb) (P.L xb) (P.C xb)] 78)) = .ok v' w' ∧ (v' = .slice (some ⟨g, 0, none⟩) (pre.length + 1) m ∧ w' = (W.alloc (.cells #[.int .i64 xa, .slice (P.A xb) (P.L xb) (P.C xb)] 78)).setRow g (flat P (fill m (pre ++ [(xa, xb)]))).toArray) := ⟨_, _, hap, rfl, rfl⟩
    have hgW : g < W.heap.size := h2.lt
    have hgr := grownBy_setRow (W.alloc (.cells #[.int .i64 xa, .slice (P.A xb) (P.L xb) (P.C xb)] 78)) g (flat P (fill m (pre ++ [(xa, xb)]))).toArray
    have hb3 : Boxed ((W.alloc (.cells #[.int .i64 xa, .slice (P.A xb) (P.L xb) (P.C xb)] 78)).setRow g (flat P (fill m (pre ++ [(xa, xb)]))).toArray) bx 73 (.slice (some ⟨g, 0, none⟩) pre.length m) := (h1.alloc _).kept hgr (fun e => hbg (Option.some.inj e))
    have hg3 : Blk ((W.alloc (.cells #[.int .i64 xa, .slice (P.A xb) (P.L xb) (P.C xb)] 78)).setRow g (flat P (fill m (pre ++ [(xa, xb)]))).toArray) g (flat P (fill m (pre ++ [(xa, xb)]))).toArray 78 := setRow_heap _ g _ _ _ _ (h2.alloc _)
    have hk3 : KpQ w.heap.size wc.heap.size W ((W.alloc (.cells #[.int .i64 xa, .slice (P.A xb) (P.L xb) (P.C xb)] 78)).setRow g (flat P (fill m (pre ++ [(xa, xb)]))).toArray) :=
      ⟨below_setRow ((Below.refl _ W).alloc (by omega) _) hgw _, (setRow_other _ _ _ _ (by omega)).trans (Below.heap_alloc _ _ _ (by omega))⟩
    have ko : KeepsOthers W ((W.alloc (.cells #[.int .i64 xa, .slice (P.A xb) (P.L xb) (P.C xb)] 78)).setRow g (flat P (fill m (pre ++ [(xa, xb)]))).toArray) :=
      (KeepsOthers.alloc W _).trans (KeepsOthers.of_grownBy hgr fun j o ej hj => by
        cases ej
        rw [(h2.alloc _).eq] at hj; cases hj; rfl)
    generalize hw9 : (W.alloc (.cells #[.int .i64 xa, .slice (P.A xb) (P.L xb) (P.C xb)] 78)).setRow g (flat P (fill m (pre ++ [(xa, xb)]))).toArray = w9 at *
    have cb := hb3.cell
    have fb := hb3.frozen
    replace hap2 := Lib.hid hap2
    clear hap hgr hw9
    simp only [rowV]
    gi_wp2_with (gi_at_builtin; refine wpListIn_append_run _ rfl (.tmp 19) (.tmp 21) 73 rfl _ _ rfl rfl _ hap2.out ?_; rintro v' w' ⟨rfl, rfl⟩)
    exact ⟨(ko.trans (KeepsOthers.setCell _ _ _)).from _, hk3.trans ⟨(Below.refl _ _).setCell hbx _, heap_setCell_other _ _ _ _ (by simp; omega)⟩, ⟨⟨by rw [List.length_append]; exact hb3.set _, hg3.other (by simp; omega) _⟩, (h3.trans hk3).trans ⟨(Below.refl _ _).setCell hbx _, heap_setCell_other _ _ _ _ (by simp; omega)⟩⟩⟩
  case done =>
    rintro D ys W hD rfl ⟨⟨hb, hg⟩, hk⟩ hK
    have cb := hb.cell
    have hW := hQ.below (hK0.trans hk.1)
    have p0 := hW.cells.1
    have p1 := hW.cells.2.1
    have q0 := hW.blk.free 0
    have q1 := hW.blk.free 1
    have hnm : n ≤ m := by have := hbig.out; omega
    replace hW := Lib.hid hW
    clear d0 d1 d2 d3 d4 w1 w2
    gi_wp2_with fail
    have hpg : g ≠ p := by omega
    have hDp : D ≠ p := by omega
    have hDg : D ≠ g := by omega
    have hbg2 := hbig.out
    have hfl : (fill m (items rs fr n)).length = m := fill_length m _ (by omega)
    have hK2 : ((W.setCell ⟨p, 0, none⟩ (.slice (some ⟨g, 0, none⟩) m m)).setCell ⟨p, 1, none⟩ (.int .i64 0)).heap[D]? = some (.deferred (some [])) := (heap_setCell_other _ _ _ _ hDp).trans ((heap_setCell_other _ _ _ _ hDp).trans hK)
    refine ⟨by simp, .inl ⟨_, _, rfl, run_takeDeferred hK2, ?_⟩⟩
    refine ⟨_, results_none rfl _ _ _, ⟨_, rfl⟩, g, m, by omega, by omega, by omega, hgw, ⟨?_, ?_, hW.out.lo, .inl ⟨by rw [hfl]; omega, by rw [hfl]; omega⟩, by rw [hfl]; omega, hW.out.most1⟩, ?_⟩
    · exact (World.putObj_heap_other hDp.symm).trans ((hW.out.blk.set 0 _).set 1 _)
    · refine ⟨by rw [flat_length, hfl]; omega, .inr ⟨g, m, (flat P (fill m (items rs fr n))).toArray, by rw [hfl], by omega, ?_, by rw [hfl]; omega, by unfold maxLen; omega, by simp [flat_length, hfl]; omega, ?_⟩⟩
      · exact (World.putObj_heap_other hDg.symm).trans ((hg.other hpg _).other hpg _)
      · exact List.take_of_length_le (by simp [flat_length, hfl]; omega)
    · refine ⟨?_, ?_⟩
      · exact ((((hK0.trans hk.1).mono (Nat.zero_le _)).setCell (p := ⟨p, 0, none⟩) (Nat.zero_le _) (.slice (some ⟨g, 0, none⟩) m m)).setCell (p := ⟨p, 1, none⟩) (Nat.zero_le _) (.int .i64 0)).trans ⟨rfl, rfl, rfl, by simp, fun j hj => absurd hj (Nat.not_lt_zero j)⟩
      · intro k hk1 hk2
        have hkp : k ≠ p := hk2
        exact (World.putObj_heap_other (by omega)).trans ((heap_setCell_other _ _ _ _ hkp).trans ((heap_setCell_other _ _ _ _ hkp).trans ((hK0.trans hk.1).block k hk1)))
  case stop =>
    rintro D c pre W _ _ h _
    exact h.elim
end Go.Proofs.Ytcekipbjimbinaa
