/- A region that draws its order and only reads and calls quietly, inside a round of a loop over a function. -/
import Derived.Test.YtmmhcfbnelggfaaDoorRange
import Derived.Test.YtmmhcfbnelggfaaDoorSubs
import Derived.Lib.QuietBelowIn
import Derived.Sort.BigQuietIn
namespace Go.Proofs.YtmmhcfbnelggfaaDoor
open Go.RowKit Go.Shelf Go.Sort
attribute [local go_sem] Oper.semAt_some

section
variable {F : Fence} {n : Nat} {P : Program} {ops : Array Oper} {C : World → Prop}
/-- No operation of the region defers. -/
def noDefer (ops : Array Oper) : Bool := ops.all fun o => match o.op with | .defer _ => false | _ => true
theorem noDefer_at (h : noDefer ops = true) {i : Nat} {o : Oper} (ho : ops[i]? = some o) : ∀ c, o.op ≠ .defer c := by
  intro c hc
  have := (Array.all_eq_true_iff_forall_mem.1 h) o (Array.mem_of_getElem? ho)
  rw [hc] at this
  cases this
theorem op_of_quiet {o : Oper} {a : Act} {K : Act → Prop} {K' : Act → World → Prop} {Q' : Exit → Act → World → Prop} {w : World} (hnd : ∀ c, o.op ≠ .defer c) (hw : C w) (h : ∀ a w', C w' → K a → K' a w')
    (ha : o.askedIn F P a C) (hh : o.quietIn F n P a C K) : o.wpIn F n P a w K' Q' := by
  obtain ⟨v, h1, h2⟩ := hh
  have h3 := h1 w hw
  unfold Oper.quietAtIn at h3
  unfold Oper.wpIn
  refine ⟨ha w hw, ?_⟩
  rw [Oper.semAt_plain F _ _ hnd]
  revert h3
  cases (execOp a.eval o).run P w with
  | halt x w' => intro h3; exact h3.elim
  | ok x w' =>
    cases x with
    | value u => rintro ⟨rfl, rfl⟩; exact h _ _ hw h2
    | skip => rintro ⟨rfl, rfl⟩; exact h _ _ hw h2
    | enter f args => rintro ⟨rfl, hd, hc⟩; exact ⟨hd, hc.mono fun e w'' ⟨he, hw''⟩ => by subst he; exact h _ _ hw'' h2⟩
    | _ => intro h3; exact h3.elim
theorem opIn_of_quiet {i : Nat} {a : Act} {K : Act → Prop} {K' : Act → World → Prop} {Q' : Exit → Act → World → Prop} {w : World} (hnd : noDefer ops = true) (hC : C w) (h : ∀ a w', C w' → K a → K' a w')
    (hh : qOpIn F n P ops C i K a) : wpOpIn F n P ops Q' i K' a w := by
  unfold qOpIn at hh
  unfold wpOpIn
  cases ho : ops[i]? with
  | none => simp only [ho] at hh; exact h _ _ hC hh
  | some o =>
    simp only [ho] at hh
    obtain ⟨ha, hh⟩ := hh
    by_cases hw : Region.wanted o (yielded ops a.tmps) = true
    · simp only [hw, if_true] at hh ⊢; exact op_of_quiet (noDefer_at hnd ho) hC h ha hh
    · simp only [hw] at hh ⊢; exact ⟨ha w hC, h _ _ hC hh⟩
theorem any_of_quiet {Q : Act → Prop} {Q' : Exit → Act → World → Prop} (hnd : noDefer ops = true) (hQ : ∀ a w, C w → Q a → Q' .normal a w) : ∀ (fuel : Nat) (listed : Array Bool) (a : Act) (w : World), C w →
    wpAnyQIn F n P .any ops C Q fuel listed a → wpAnyIn F n P .any ops Q' fuel listed a w
  | 0, _, _, _, hw, h => ⟨h.1, hQ _ _ hw h.2⟩
  | fuel + 1, _, _, _, hw, h => ⟨fun h0 => hQ _ _ hw (h.1 h0), fun i hi => opIn_of_quiet hnd hw (fun a' w' hw' => any_of_quiet hnd hQ fuel _ a' w' hw') (h.2 i hi)⟩
/-- The walk in the text's order serves, in a round too. -/
theorem round_region_quiet {id : Nat} {Q : Exit → Act → World → Prop} {a : Act} {w : World} {l : List Oper} (hnd : noDefer l.toArray = true) (hm : P.follows .mixedOrders = true) (hB : Region.lexB .any l.toArray = true)
    (h : wpQuietIn F n P l.toArray (fun w' => ∃ n, w' = w.drewN n) (fun a' => ∀ w', (∃ n, w' = w.drewN n) → Q .normal a' w') l a) : (Code.region id l.toArray true).wpIn F n P Q a w := by
  simp only [Region.lexB, Bool.and_eq_true] at hB
  refine wpIn_region_any hm (any_of_quiet (C := fun w' => ∃ n, w' = w.drewN n) (Q := fun a' => ∀ w', (∃ n, w' = w.drewN n) → Q .normal a' w') hnd (fun _ w' hw' h => h w' hw') _ _ _ _ ⟨1, rfl⟩ ?_)
  have := wpAnyQIn_lex (F := F) (n := n) (C := fun w' => ∃ n, w' = w.drewN n) (md := .any) hB.1 l 0 (Array.replicate l.toArray.size false) a (by simp) (by simpa using hB.2) h
  simpa using this
end

/-- Block b lies as it lay. -/
def KeepBlk (b : Nat) (W W' : World) : Prop := W'.heap[b]? = W.heap[b]?
theorem keepBlk_t {b : Nat} {A B C : World} (h : KeepBlk b A B) (k : KeepBlk b B C) : KeepBlk b A C := Eq.trans k h
set_option maxRecDepth 100000 in
set_option maxHeartbeats 1000000 in
theorem subs1k_in (F : Fence) (n : Nat) (hf : F.fn 42) (hro : F.round = none) (hn : 1 ≤ n) (l Bn m : Nat) (hm : m < 18446744073709551616) (J Jx : List Nat → World → Prop)
    (hY : ∀ pre (x : Nat) W, J pre W → pre.length < 2 ^ cnt m → x < 18446744073709551616 → YieldAt F (n - 1) Tryd.prog l #[.int .u64 x] W fun e W' =>
      (e = .returned (.bool true) ∧ J (pre ++ [x]) W' ∧ KeepBlk Bn W W') ∨ (e = .returned (.bool false) ∧ Jx (pre ++ [x]) W'))
    (W : World) (hBn : W.cell? ⟨Bn, 0, none⟩ = some (.int .u64 m)) (h0 : J [] W) :
    CallsIn F n Tryd.prog 42 #[.func (.yield l) #[] #[], .pointer (some ⟨Bn, 0, none⟩)] W fun e W' => (∃ v, e = .returned v) ∧
      ((∃ ys, ys = subsTo m (2 ^ cnt m) ∧ J ys W') ∨ (∃ pre, pre <+: subsTo m (2 ^ cnt m) ∧ Jx pre W')) := by
  have hz := subW_zero m
  replace hz := Lib.hid hz
  refine callsIn_of_wp Tryd.func42 rfl hf ?_ hro
  simp only [Tryd.ntmps42, List.size_toArray, List.length_cons, List.length_nil, Nat.reduceAdd, Nat.reduceSub, Array.replicate_succ, Array.replicate_zero, List.push_toArray, List.append_toArray, List.nil_append, List.cons_append]
  gi_wp2
  gi_loopw [3] (fun s wr => ∃ k : Nat, s = .int .u64 (subW m k : Nat) ∧ k < 2 ^ cnt m ∧ J (subsTo m k) wr ∧ wr.cell? ⟨Bn, 0, none⟩ = some (.int .u64 m))
    (fun s _ => m + 1 - (intOf s).toNat)
  case atStart =>
    exact ⟨0, by rw [hz.out]; rfl, Nat.two_pow_pos _, h0, hBn⟩
  case round =>
    obtain ⟨k, rfl, hk, hJ, hc⟩ := hrel
    obtain ⟨fn, tmps, assign, body, hy, hR⟩ := hY (subsTo m k) (subW m k) wr hJ (by rw [subsTo_length]; exact hk) (subW_lt m k)
    have hlast := subW_last hm
    have hnext := subW_next hm k
    have hlt := subW_lt m k
    have hne : k + 1 < 2 ^ cnt m → subW m k ≠ m := fun h e => by
      have := subW_rise m (show k < 2 ^ cnt m - 1 by omega) (by omega)
      omega
    have hmono : k + 1 < 2 ^ cnt m → subW m k < subW m (k + 1) ∧ subW m k < m := fun h => by
      have h1 := subW_rise m (show k < k + 1 by omega) h
      have h2 := subW_rise m (show k < 2 ^ cnt m - 1 by omega) (by omega)
      omega
    have hs2 := subsTo_succ m k
    have HB := fun W' (hk : KeepBlk Bn wr W') => (World.cell?_of_block (w := wr) (w' := W') (a := ⟨Bn, 0, none⟩) hk).trans hc
    by_cases hend : k + 1 = 2 ^ cnt m
    · have hkm : subW m k = m := by rw [show k = 2 ^ cnt m - 1 by omega]; exact hlast
      rw [hkm] at hy hR hs2
      rw [hkm]
      replace hkm := Lib.hid hkm
      replace hlast := Lib.hid hlast
      replace hnext := Lib.hid hnext
      replace hs2 := Lib.hid hs2
      replace hend := Lib.hid hend
      gi_wp2
      refine hR.mono ?_
      rintro e W3 (⟨rfl, hJ3, hk3⟩ | ⟨rfl, hJx3⟩)
      · have hc3 := HB W3 hk3
        gi_wp2
        refine bodyPost_ret (results_none rfl _ _ _) rfl ?_
        exact ⟨⟨_, rfl⟩, .inl ⟨_, by rw [← hend.out]; exact hs2.out.symm, hJ3⟩⟩
      · gi_wp2
        refine bodyPost_ret (results_none rfl _ _ _) rfl ?_
        exact ⟨⟨_, rfl⟩, .inr ⟨_, by rw [← hs2.out]; exact subsTo_prefix m (by omega), hJx3⟩⟩
    · have hk' : k + 1 < 2 ^ cnt m := by omega
      replace hne := hne hk'
      replace hmono := hmono hk'
      obtain ⟨hm1, hm2⟩ := hmono
      generalize hs : subW m k = s at *
      replace hs := Lib.hid hs
      replace hlast := Lib.hid hlast
      replace hnext := Lib.hid hnext
      replace hs2 := Lib.hid hs2
      gi_wp2
      refine hR.mono ?_
      rintro e W3 (⟨rfl, hJ3, hk3⟩ | ⟨rfl, hJx3⟩)
      · have hc3 := HB W3 hk3
        gi_wp2
        have e : bits .and .u64 (IntKind.u64.wrap ((s : Int) - (m : Int))) (m : Int) = ((subW m (k + 1) : Nat) : Int) := by
          rw [wrap_sub_u64_nat s m (18446744073709551616 - m) (by omega), bits_and_u64_nat _ _ (Nat.mod_lt _ (by omega)) hm, hnext.out]
        rw [e]
        exact ⟨⟨k + 1, rfl, hk', by rw [hs2.out]; exact hJ3, hc3⟩, by simp only [intOf, Int.toNat_natCast]; omega⟩
      · gi_wp2
        refine bodyPost_ret (results_none rfl _ _ _) rfl ?_
        exact ⟨⟨_, rfl⟩, .inr ⟨_, by rw [← hs2.out]; exact subsTo_prefix m (by omega), hJx3⟩⟩

/-- A word. -/
def Wd : Type := { x : Nat // x < 18446744073709551616 }
def vals (l : List Wd) : List Nat := l.map (·.1)
theorem vals_snoc (l : List Wd) (x : Wd) : vals (l ++ [x]) = vals l ++ [x.1] := by simp [vals]
theorem vals_length (l : List Wd) : (vals l).length = l.length := by simp [vals]
theorem subs_stopsk (Bn m : Nat) (hm : m < 18446744073709551616) (w : World) (hBn : Bn < w.heap.size) (hc : w.cell? ⟨Bn, 0, none⟩ = some (.int .u64 m)) :
    SeqStopsK Fence.wide 8 Tryd.prog 42 #[.pointer (some ⟨Bn, 0, none⟩)] (fun x : Wd => #[Value.int .u64 x.1]) (KeepBlk Bn) (fun ys => vals ys = subsTo m (2 ^ cnt m)) (fun pre => vals pre <+: subsTo m (2 ^ cnt m)) (2 ^ cnt m) w := fun l J Jx W hW _ _ hY h0 => by
  refine (subs1k_in Fence.wide 8 trivial rfl (by omega) l Bn m hm (fun pre W => ∃ p, vals p = pre ∧ J p W) (fun pre W => ∃ p, vals p = pre ∧ Jx p W) ?_ W ((hW.cell (p := ⟨Bn, 0, none⟩) hBn).trans hc) ⟨[], rfl, h0⟩).mono ?_
  · rintro pre x W' ⟨p, rfl, hJ⟩ hl hx
    obtain ⟨fn, tmps, assign, body, hy, hR⟩ := hY p ⟨x, hx⟩ W' hJ (by rw [vals_length] at hl; exact hl)
    refine ⟨fn, tmps, assign, body, hy, hR.mono ?_⟩
    rintro e W3 (⟨he, h1, h2⟩ | ⟨he, h1⟩)
    · exact .inl ⟨he, ⟨_, vals_snoc p ⟨x, hx⟩, h1⟩, h2⟩
    · exact .inr ⟨he, ⟨_, vals_snoc p ⟨x, hx⟩, h1⟩⟩
  · rintro e W3 ⟨he, ⟨ys, hys, p, hp, hJ⟩ | ⟨pre, hpre, p, hp, hJ⟩⟩
    · exact ⟨he, .inl ⟨p, hp.trans hys, hJ⟩⟩
    · exact ⟨he, .inr ⟨p, show vals p <+: _ from hp ▸ hpre, hJ⟩⟩

/-- A loop over Subsets whose body may leave by a return (at a wrong number alone) or by one exit. -/
theorem wpIn_range_subs {g : Operand} {p s : Tmp} {assign body : Code} {Q : Exit → Act → World → Prop} {a : Act} {w : World} (id m bM : Nat) (hm : m < 18446744073709551616)
    (hg : a.eval g = .func (.func 42) #[] #[.pointer (some ⟨bM, 0, none⟩)]) (hM : Boxed w bM 24 (.int .u64 m))
    (I Ie : List Nat → World → Prop) (hI : OwnFrom w.heap.size I) (hIe : OwnFrom w.heap.size Ie) (h0 : I [] w)
    (hassign : ∀ (l : Nat) (x : Nat) (W : World) (K : Act → World → Prop), K { tmps := (a.tmps.setIfInBounds p (.int .u64 x)).setIfInBounds s (.int .u64 x), defers := [] } W → assign.wpIn (Fence.wide.inRound l) 7 Tryd.prog (Exit.then K (fun _ _ _ => False)) { tmps := a.tmps.setIfInBounds p (.int .u64 x), defers := [] } W)
    (hbody : ∀ (l : Nat) (pre : List Nat) (x : Nat) (W : World), I pre W → pre.length < 2 ^ cnt m → x < 18446744073709551616 → body.wpIn (Fence.wide.inRound l) 7 Tryd.prog (ownPostG w.heap.size (KeepBlk bM) I (fun c pre W => (c = .ret ∧ ¬ pre <+: subsTo m (2 ^ cnt m)) ∨ (c = .exit id ∧ Ie pre W)) (pre ++ [x]) W) { tmps := (a.tmps.setIfInBounds p (.int .u64 x)).setIfInBounds s (.int .u64 x), defers := [] } W)
    (hQ : ∀ (a : Act) (W : World), Q .normal a W → Q (.exit id) a W)
    (hend : ∀ (D : Nat) (W : World), w.heap.size ≤ D → (I (subsTo m (2 ^ cnt m)) W ∨ ∃ pre, pre <+: subsTo m (2 ^ cnt m) ∧ Ie pre W) → W.heap[D]? = some (.deferred (some [])) → Q .normal { a with defers := { target := .collected D, args := #[] } :: a.defers } W) :
    (Code.rangeFunc g #[p] assign body).wpIn Fence.wide 9 Tryd.prog Q a w :=
  wpIn_rangeFunc_ownG (Kp := KeepBlk bM) rfl (by omega) hg trivial (enters_of Tryd.func42 (by kernel_rfl) rfl)
    (subs_stopsk bM m hm w hM.lt hM.cell) keepBlk_t (fun W l o o' hl _ _ _ => World.putObj_heap_other (by have := hM.lt; omega)) (Below.refl _ _) (fun _ => rfl)
    (fun pre W => I (vals pre) W) (fun c pre W => (c = .ret ∧ ¬ vals pre <+: subsTo m (2 ^ cnt m)) ∨ (c = .exit id ∧ Ie (vals pre) W)) (fun s W W' row hs hg' hr => hI (vals s) W W' row hs hg' hr)
    (fun c s W W' row hs hg' hr => by
      rcases hs with h | ⟨h1, h2⟩
      · exact .inl h
      · exact .inr ⟨h1, hIe (vals s) W W' row h2 hg' hr⟩) h0 (fun x => { tmps := (a.tmps.setIfInBounds p (.int .u64 x.1)).setIfInBounds s (.int .u64 x.1), defers := [] })
    (fun l x W K hK => by have h := hassign l x.1 W K hK; simpa using h)
    (fun l pre x W hI' hl => wpIn_mono (hbody l (vals pre) x.1 W hI' (by rw [vals_length]; exact hl) x.2) (fun e a' W' hq => by
      rw [← vals_snoc] at hq
      cases e <;> exact hq))
    (fun D xs W hD hS hI hK => hend D W hD (.inl (by rw [← hS]; exact hI)) hK)
    (fun D c pre W hD hS hx hK => by
      rcases hx with ⟨_, h⟩ | ⟨rfl, hx⟩
      · exact absurd hS h
      · exact wpIn_exit (hQ _ _ (hend D W hD (.inr ⟨_, hS, hx⟩) hK)))
end Go.Proofs.YtmmhcfbnelggfaaDoor
