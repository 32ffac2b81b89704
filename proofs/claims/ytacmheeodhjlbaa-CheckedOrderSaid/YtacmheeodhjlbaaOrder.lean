/- The walk of CheckedOrder: the order of numbers makes no difference to their sum and product. -/
import Derived.Test.YtacmheeodhjlbaaPicks
import Derived.Below
import Derived.Deep.Draws
import Derived.Deep.AppendLies
import Derived.Maps.AppendAt
import Derived.OwnWalk
import Derived.Laws.BytesArg
import Derived.Laws.MakeOwn
import Derived.Laws.OwnMore
import Derived.Deep.OwnRows
import Derived.Tactics
import Derived.Lib.ConvBytes
import Derived.Laws.Slices
import Derived.WalkKit
import Derived.KernelRfl
import Derived.RowKit3
import Derived.Deep.LoopGhost
import Derived.Deep.QuietTactic
import Derived.BigQuiet
import Derived.WideLaws
import Derived.Deep.DeepCutAuto
import Derived.Deep.CutBlock
import Derived.Deep.RegionHeld3
import Derived.Laws.Rows
import Derived.Lib.AppendStr
import Derived.ArgAppend
import Derived.Laws.IdiomCopy
import Derived.OrdersHeld
import Derived.Laws.BitsLemmas
import Derived.RowKit
import Derived.Test.YtacmheeodhjlbaaWWords
import Derived.Test.YtacmheeodhjlbaaWLast
import Derived.Test.YtacmheeodhjlbaaWTab
import Derived.Test.YtacmheeodhjlbaaWFour
import Derived.Test.YtacmheeodhjlbaaWQPut
import Derived.Test.YtacmheeodhjlbaaWApart
import Derived.Test.YtacmheeodhjlbaaWArr
import Derived.Test.YtacmheeodhjlbaaWZeros
import Derived.Test.YtacmheeodhjlbaaWFoot
import Derived.Test.YtacmheeodhjlbaaWKept
import Derived.Test.YtacmheeodhjlbaaWShare
import Derived.Test.YtacmheeodhjlbaaWN
import Derived.Test.YtacmheeodhjlbaaWFootNe
import Derived.Test.YtacmheeodhjlbaaWAt
import Derived.Test.YtacmheeodhjlbaaWEqStruct
import Derived.Test.YtacmheeodhjlbaaWRepsOne
import Derived.Test.YtacmheeodhjlbaaWInv
import Derived.Test.YtacmheeodhjlbaaWInvWords
import Derived.Test.YtacmheeodhjlbaaWGuard
import Derived.Test.YtacmheeodhjlbaaWNEv
import Derived.Test.YtacmheeodhjlbaaWMore
import Derived.Deep.CutRange
import Derived.Deep.DeepAppendRoom
namespace Go.Proofs.Ytacmheeodhjlbaa
open Go.RowKit Go.Proofs.YtacmheeodhjlbaaW.PrintWords Go.Proofs.YtacmheeodhjlbaaW.PrintLast Go.Proofs.YtacmheeodhjlbaaW.PrintMore
set_option linter.unusedVariables false
theorem info2 : (Try.prog.info? 2).map (fun i => (i.zero, i.size, i.bytes)) = some (some (.int .i64 0), 1, 8) := by kernel_rfl
theorem own_append_keep {P : Program} (w : World) (base : Nat) (t ty e : TypeId) (i : TypeInfo) (z : Value) (size bytes : Nat) (ht : P.underlying t = some (.slice e)) (hi : P.info? e = some i) (hz : i.zero = some z)
    (hsize : i.size = size) (hby : i.bytes = bytes) (hzs : z.cells.size = size) (hsz : 0 < size)
    (v : Value) (n : Nat) (xs : List Value) (hown : w.ownsRow base e size v n xs)
    (a : Addr) (c : Nat) (news : List Value) (hl : news.length = 1 * size) (hnews : ∀ j u, news[j]? = some u → w.cell? (a.add j) = some u) (h1 : ∀ u ∈ news, u.oneCell' = true)
    (h63 : n + 1 ≤ maxLen) (hbytes : (n + 1) * bytes ≤ 140737488355328) (hbase : base ≤ w.heap.size) :
    ∃ v' w', (Builtin.append_ #[t, t] ty #[v, .slice (some a) 1 c]).run P w = .ok v' w' ∧ w'.ownsRow base e size v' (n + 1) (xs ++ news) ∧ w.grownBy w' v.ownBlock ∧ w'.ownsRow base e size v n xs := by
  obtain ⟨v', w', hr, ho, hg, _⟩ := run_append_own (P := P) w base t ty e i z size bytes ht hi hz hsize hby hzs hsz v n xs hown a 1 c news hl hnews h1 h63 hbytes hbase
  refine ⟨v', w', hr, ho, hg, ?_⟩
  rcases hown.2 with ⟨rfl, rfl⟩ | ⟨g, cap, cur, rfl, hbg, hgg, hnc, hcm, hcs, htake⟩
  · have hx : xs = [] := List.eq_nil_of_length_eq_zero (by simpa using hown.1)
    subst hx
    exact World.ownsRow_nil _ _ _ _
  · by_cases hroom : n + 1 ≤ cap
    · obtain ⟨w'', hr2, ho2, _⟩ := run_append_own_spare (P := P) w base t ty e i size ht hi hsize g n cap xs hown a 1 c news hl hnews h1 hroom
      rw [hr] at hr2
      injection hr2 with e1 e2
      subst e2
      refine ⟨hown.1, .inr ?_⟩
      rcases ho2.2 with ⟨h0, _⟩ | ⟨g', cap', cur', hv', hb', hg', hn', hm', hs', ht'⟩
      · cases h0
      · cases hv'
        refine ⟨g, cap, cur', rfl, hb', hg', hnc, hm', hs', ?_⟩
        have h3 := congrArg (List.take (n * size)) ht'
        rw [List.take_take, Nat.min_eq_left (Nat.mul_le_mul_right _ (Nat.le_succ n))] at h3
        rw [h3, ← hown.1, List.take_left]
    · subst hsize
      subst hby
      have hcl : cur.toList.length = cap * i.size := by rw [Array.length_toList]; exact hcs
      have hx : ∀ j u, xs[j]? = some u → w.cell? ((⟨g, 0, none⟩ : Addr).add j) = some u := fun j u hj => by
        rw [← htake] at hj
        have hjl : j < n * i.size := by
          rcases Nat.lt_or_ge j (n * i.size) with h | h
          · exact h
          · rw [List.getElem?_eq_none (by rw [List.length_take]; exact Nat.le_trans (Nat.min_le_left _ _) h)] at hj; cases hj
        rw [List.getElem?_take_of_lt hjl] at hj
        rw [show (⟨g, 0, none⟩ : Addr).add j = ⟨g, j, none⟩ from by (simp [Addr.add]; try omega), cell_of_row w g j cur e (0, 0) hgg]
        simpa using hj
      have hr2 := run_append_grow (P := P) w t ty e i z ht hi hz ⟨g, 0, none⟩ n cap xs hown.1 hx a 1 c news hl hnews (by omega) (by simp only [maxLen] at h63; omega) (growslice_fits (by omega) hbytes)
      rw [hr] at hr2
      injection hr2 with e1 e2
      subst e2
      exact World.ownsRow.alloc (w := w.drew) hown _
theorem R_append_keep {P : Program} {ops : Array Oper} {rest : List Oper} {o : Oper} {a : Act} {Q : Exit → Act → World → Prop} {w0 W : World} (base : Nat) (hgd : o.guard = none) (s x : Operand) (t e : TypeId) (z : Value)
    (ho : o.op = .call { callee := .builtin .append, args := #[s, x], argTypes := #[t, t] })
    (ht : P.underlying t = some (.slice e)) (hinfo : (P.info? e).map (fun i => (i.zero, i.size, i.bytes)) = some (some z, 1, 8)) (hz : z.cells.size = 1)
    (v : Value) (xs : List Int) (p : Int) (hs : a.eval s = v) (hx : a.eval x = .slice (some ⟨W.heap.size, 0, none⟩) 1 1)
    (HO : Kd.R (Kd.int .i64) e W base (fun _ => True) v xs) (HB : Below base w0 W) (hbase : base ≤ W.heap.size) (hl : (xs.length + 1) * 8 ≤ 140737488355328)
    (h : ∀ v1 w1, Kd.R (Kd.int .i64) e w1 base (fun _ => True) v1 (xs ++ [p]) → Kd.R (Kd.int .i64) e w1 base (fun _ => True) v xs → Below base w0 w1 → wpList P ops Q rest (a.put o.dst v1) w1) :
    wpList P ops Q (o :: rest) a (W.alloc (.cells #[.int .i64 p] e)) := by
  obtain ⟨i0, hi, hzz⟩ := Option.map_eq_some_iff.1 hinfo
  simp only [Prod.mk.injEq] at hzz
  obtain ⟨hz0, hz1, hz2⟩ := hzz
  obtain ⟨h0, inner, hown, hr⟩ := HO
  obtain ⟨v1, w1, hrun, hown1, hg, hown2⟩ := own_append_keep (P := P) (W.alloc (.cells #[.int .i64 p] e)) base t o.type e i0 z 1 8 ht hi hz0 hz1 hz2 hz (by decide) v xs.length inner (World.ownsRow.alloc hown _) ⟨W.heap.size, 0, none⟩ 1 [.int .i64 p] rfl
    (by simpa using World.news_of_block (cs := #[.int .i64 p]) (t := e) (fr := (0, 0)) (heap_alloc_new W (.cells #[.int .i64 p] e))) (by simp [Value.oneCell']) (by simp only [maxLen]; omega) hl (by simp; omega)
  have hB := (HB.alloc hbase (.cells #[.int .i64 p] e)).grown hg (by simp; omega) (own_base hown)
  have R2 : Kd.R (Kd.int .i64) e w1 base (fun _ => True) v xs := ⟨fun _ _ => trivial, inner, hown2, hr⟩
  have R1 : Kd.R (Kd.int .i64) e w1 base (fun _ => True) v1 (xs ++ [p]) := by
    refine ⟨fun _ _ => trivial, inner ++ [.int .i64 p], ?_, ?_⟩
    · rw [List.length_append, List.length_singleton]; exact hown1
    · exact Reps.snoc hr rfl rfl
  refine wpList_plain hgd fun K hK => ?_
  unfold Oper.wp execOp
  simp only [ho, resolve, invoke, builtin, Sem.run_bind, Sem.run_pure, Result.andThen_ok, List.map_toArray, List.map_cons, List.map_nil, hs, hx, hrun]
  exact hK _ _ (h v1 w1 R1 R2 hB)
theorem IntsAny.ofC {w : World} {A : Option Addr} {c : Nat} {l : List Int} (h : Kd.C (Kd.int .i64) w A l.length l) : IntsAny w (.slice A l.length c) l := by
  refine ⟨A, c, rfl, fun hp => ?_⟩
  obtain ⟨ad, e, _⟩ := Kd.at_int h 0 (by omega) (by omega)
  refine ⟨ad, e, fun i hi => ?_⟩
  obtain ⟨ad', e', hc⟩ := Kd.at_int h (i : Int) (by omega) (by omega)
  rw [e] at e'
  cases e'
  simpa [rd] using hc
set_option maxRecDepth 100000 in
theorem round_any (p : Int) (n : Nat) (h0 : 0 < n) (hn : n ≤ 17592186044416) (w : World) : Calls Try.prog 29 #[.int .i64 p, .int .i64 n] w fun e w' => (∃ q : Nat, q < n ∧ e = .returned (.int .i64 q)) ∧ w' = w := by
  have h1 : Int.tmod p (n : Int) < n ∧ -(n : Int) < Int.tmod p (n : Int) := ⟨Int.tmod_lt_of_pos p (by omega), by have := Int.lt_tmod_of_pos p (show (0 : Int) < n by omega); omega⟩
  have t0 : ((n : Int) == 0) = false := by rw [beq_eq_false_iff_ne]; omega
  have t1 : ¬ (n : Int) = 0 := by omega
  have hw : wrap64 (Int.tmod p (n : Int)) = Int.tmod p (n : Int) := IntWalk.wrap64_in _ (by omega)
  have hw2 : wrap64 (Int.tmod p (n : Int) + n) = Int.tmod p (n : Int) + n := IntWalk.wrap64_in _ (by omega)
  by_cases h : Int.tmod p (n : Int) < 0
  · have t2 : decide (Int.tmod p (n : Int) < 0) = true := decide_eq_true h
    have hq : Hid (∃ q : Nat, q < n ∧ Int.tmod p (n : Int) + n = (q : Int)) := Lib.hid ⟨(Int.tmod p (n : Int) + n).toNat, by omega, by omega⟩
    go_enter Try.func29, Try.ntmps29
    go_wp2_with fail
    go_ret
    obtain ⟨q, h1, h2⟩ := hq.out
    exact ⟨⟨q, h1, congrArg (fun x => Ending.returned (Value.int .i64 x)) h2⟩, rfl⟩
  · have t2 : decide (Int.tmod p (n : Int) < 0) = false := decide_eq_false h
    have hq : Hid (∃ q : Nat, q < n ∧ Int.tmod p (n : Int) = (q : Int)) := Lib.hid ⟨(Int.tmod p (n : Int)).toNat, by omega, by omega⟩
    go_enter Try.func29, Try.ntmps29
    go_wp2_with fail
    go_ret
    obtain ⟨q, h1, h2⟩ := hq.out
    exact ⟨⟨q, h1, congrArg (fun x => Ending.returned (Value.int .i64 x)) h2⟩, rfl⟩
theorem perm_pick {left other l : List Int} {q : Nat} (hq : q < left.length) (h : (left ++ other).Perm l) : ((left.take q ++ left.drop (q + 1)) ++ (other ++ [rd left (q : Int)])).Perm l := by
  refine List.Perm.trans ?_ h
  have e : left = left.take q ++ rd left (q : Int) :: left.drop (q + 1) := by
    conv => lhs; rw [← List.take_append_drop q left, List.drop_eq_getElem_cons hq]
    simp [rd, hq]
  have p1 : left.Perm (rd left (q : Int) :: (left.take q ++ left.drop (q + 1))) := by
    conv => lhs; rw [e]
    exact List.perm_middle
  refine List.Perm.trans ?_ (List.Perm.append_right other p1.symm)
  rw [← List.append_assoc]
  exact List.perm_append_singleton _ _
def sliceLen : Value → Nat
  | .slice _ n _ => n
  | _ => 0
set_option maxHeartbeats 8000000 in
set_option maxRecDepth 100000 in
theorem order_walk (A : Option Addr) (c : Nat) (l : List Int) (A1 : Option Addr) (c1 : Nat) (ps : List Int) (w : World) (hr : Kd.C (Kd.int .i64) w A l.length l) (hc : l.length ≤ c) (hr1 : Kd.C (Kd.int .i64) w A1 ps.length ps) (hc1 : ps.length ≤ c1) (hll : l.length * 8 ≤ 140737488351232) (hpl : ps.length ≤ maxLen) (s e p f : Int)
    (hs1 : ∀ W, Kd.C (Kd.int .i64) W A l.length l → Calls Try.prog 24 #[.slice A l.length c] W fun x w' => x = .returned (.tuple #[.int .i64 s, .int .i64 e]) ∧ w' = W)
    (hs2 : ∀ other : List Int, other.Perm l → ∀ W A c, Kd.C (Kd.int .i64) W A (other ++ [0]).length (other ++ [0]) → Calls Try.prog 24 #[.slice A (other ++ [0]).length c] W fun x w' => x = .returned (.tuple #[.int .i64 s, .int .i64 e]) ∧ w' = W)
    (hs3 : ∀ a b, l = [a, b] → ∀ W, Calls Try.prog 11 #[.int .i64 a, .int .i64 b] W fun x w' => x = .returned (.tuple #[.int .i64 s, .int .i64 e]) ∧ w' = W)
    (hp1 : ∀ W, Kd.C (Kd.int .i64) W A l.length l → Calls Try.prog 26 #[.slice A l.length c] W fun x w' => x = .returned (.tuple #[.int .i64 p, .int .i64 f]) ∧ w' = W)
    (hp2 : ∀ other : List Int, other.Perm l → ∀ W A c, Kd.C (Kd.int .i64) W A (other ++ [1]).length (other ++ [1]) → Calls Try.prog 26 #[.slice A (other ++ [1]).length c] W fun x w' => x = .returned (.tuple #[.int .i64 p, .int .i64 f]) ∧ w' = W)
    (hp3 : ∀ a b, l = [a, b] → ∀ W, Calls Try.prog 15 #[.int .i64 a, .int .i64 b] W fun x w' => x = .returned (.tuple #[.int .i64 p, .int .i64 f]) ∧ w' = W) :
    Calls Try.prog 8 #[.slice A l.length c, .slice A1 ps.length c1] w fun e w' => e = .returned (.bool true) ∧ Below w.heap.size w w' := by
  have HR := Aside0.mk hr
  have HC := Aside0.mk hc
  have HR1 := Aside0.mk hr1
  have HC1 := Aside0.mk hc1
  have HLL := Aside0.mk hll
  have HPL := Aside0.mk hpl
  clear hr hc hr1 hc1 hll hpl
  go_enter Try.func8, Try.ntmps8
  go_wp2_with fail
  refine (awake_any _).mono ?_
  rintro e W1 ⟨rfl, hB1⟩
  have HB := Aside0.mk hB1
  clear hB1
  go_wp2_with (first | ((with_reducible refine gate_builtin (b := .append) (xs := #[.tmp 24, .tmp 25]) rfl ?_); (try (refine gate_guard (by rfl) ?_; dsimp only)); at_builtin; refine Kd.R_append_rows (Kd.int .i64) (w0 := w) w.heap.size rfl (.tmp 24) (.tmp 25) 31 2 (.int .i64 0) 8 rfl Try.underlying31 info2 rfl (by decide) (by omega) (.slice none 0 0) ([] : List Int) l _ _ _ (fun _ => True) (fun _ => False) rfl rfl ?aO ?aR (fun _ _ h => h) (fun _ h => h.elim) ?aF ?aB ?aS ?aL ?_; (case aR => exact (Kd.C_below HR.out HB.out)); (case aB => exact (by repeat (first | (with_reducible first | exact HB.out | apply below_alloc | apply pw_below_drewN | apply below_drew1) | exact HB.out))); (case aF => exact (fun _ _ => trivial)); (case aO => exact (Kd.R_nil _ _ _ _ (fun _ => True))); (case aS => exact (below_size (by repeat (first | (with_reducible first | exact HB.out | apply below_alloc | apply pw_below_drewN | apply below_drew1) | exact HB.out)))); (case aL => have := HLL.out; simp; omega); intro v1 w2 ho hb hg hat; simp only [List.nil_append] at ho; (obtain ⟨A2, c2, rfl⟩ := Kd.R_slice ho); have HL := Aside0.mk ho; clear HB; have HB := Aside0.mk hb; clear ho hb hg hat))
  go_loopw [5, 6, 7] (fun v5 v6 v7 wr => ∃ (A5 : Option Addr) (c5 : Nat) (left other : List Int), v5 = .slice A5 left.length c5 ∧ v7 = .int .i64 (other.length : Nat) ∧ Aside0 ((left ++ other).Perm l) ∧ Aside0 (Kd.R (Kd.int .i64) 2 wr w.heap.size (fun k_ => some k_ = (.slice A5 left.length c5 : Value).ownBlock) (.slice A5 left.length c5) left) ∧ Aside0 (Kd.R (Kd.int .i64) 2 wr w.heap.size (fun k_ => some k_ ≠ (.slice A5 left.length c5 : Value).ownBlock) v6 other) ∧ Aside0 (Below w.heap.size w wr)) (fun v5 _ _ _ => sliceLen v5)
  case atStart =>
    exact ⟨A2, c2, l, [], rfl, rfl, ⟨by simp⟩, ⟨Kd.R_tight rfl HL.out⟩, ⟨Kd.R_nil _ _ _ _ _⟩, HB⟩
  case round =>
    clear HL HB
    obtain ⟨A5, c5, left, other, rfl, rfl, HP, HL, HO, HB⟩ := hrel
    obtain ⟨A6, c6, eo⟩ := Kd.R_slice HO.out
    subst eo
    have hlen : left.length + other.length = l.length := by have := HP.out.length_eq; simpa using this
    have hL1 : l.length * 8 ≤ 140737488351232 := HLL.out
    rcases Nat.eq_zero_or_pos left.length with h0 | hpos
    · have hnil := List.eq_nil_of_length_eq_zero h0
      subst hnil
      clear h0
      rw [List.nil_append] at HP
      have HOT := Aside0.mk (Kd.R_mono (ok' := fun _ => True) HO.out (fun _ _ => trivial))
      clear HO HL
      have S1 := Aside0.mk hs1
      have S2 := Aside0.mk (hs2 other HP.out)
      have P1 := Aside0.mk hp1
      have P2 := Aside0.mk (hp2 other HP.out)
      have S3 := Aside0.mk hs3
      have P3 := Aside0.mk hp3
      clear hs1 hs2 hp1 hp2 hs3 hp3
      go_wp2_with fail
      refine (S1.out _ (Kd.C_below HR.out HB.out)).mono ?_
      rintro e_ w3 ⟨rfl, rfl⟩
      skip
      have hlo : (other.length + 1) * 8 ≤ 140737488355328 := by simp only [List.length_nil] at hlen; omega
      go_wp2_with (first | ((with_reducible refine gate_builtin (b := .append) (xs := #[.tmp 67, .tmp 68]) rfl ?_); (try (refine gate_guard (by rfl) ?_; dsimp only)); at_builtin; refine R_append_keep (w0 := w) w.heap.size rfl (.tmp 67) (.tmp 68) 31 2 (.int .i64 0) rfl Try.underlying31 info2 rfl (.slice A6 other.length c6) other (0) rfl rfl HOT.out HB.out (below_size HB.out) hlo ?_; intro v7 w4 ho ho2 hb; (obtain ⟨A7, c7, rfl⟩ := Kd.R_slice ho); clear HB HOT; have HOZ := Aside0.mk ho; have HOT := Aside0.mk ho2; have HB := Aside0.mk hb; clear ho ho2 hb))
      rw [show other.length + 1 = (other ++ [0]).length by simp]
      refine (S2.out _ _ _ (Kd.R_reads' HOZ.out).2.2).mono ?_
      rintro e_ w5 ⟨rfl, rfl⟩
      clear HOZ
      skip
      go_wp2_with fail
      refine (P1.out _ (Kd.C_below HR.out HB.out)).mono ?_
      rintro e_ w7 ⟨rfl, rfl⟩
      skip
      go_wp2_with (first | ((with_reducible refine gate_builtin (b := .append) (xs := #[.tmp 79, .tmp 80]) rfl ?_); (try (refine gate_guard (by rfl) ?_; dsimp only)); at_builtin; refine R_append_keep (w0 := w) w.heap.size rfl (.tmp 79) (.tmp 80) 31 2 (.int .i64 0) rfl Try.underlying31 info2 rfl (.slice A6 other.length c6) other (1) rfl rfl HOT.out HB.out (below_size HB.out) hlo ?_; intro v7 w10 ho ho2 hb; (obtain ⟨A7, c7, rfl⟩ := Kd.R_slice ho); clear HB HOT; have HOZ := Aside0.mk ho; have HOT := Aside0.mk ho2; have HB := Aside0.mk hb; clear ho ho2 hb))
      rw [show other.length + 1 = (other ++ [1]).length by simp]
      refine (P2.out _ _ _ (Kd.R_reads' HOZ.out).2.2).mono ?_
      rintro e_ w9 ⟨rfl, rfl⟩
      skip
      clear HOZ HOT HR1 HC1 HP S1 S2 P1 P2 hlen
      by_cases h2 : l.length = 2
      · obtain ⟨x0, y0, hl⟩ : ∃ x0 y0, l = [x0, y0] := by
          match l, h2 with
          | [a, b], _ => exact ⟨a, b, rfl⟩
        obtain ⟨ad1, e1, hx1⟩ := Kd.at_int (Kd.C_below HR.out HB.out) 0 (by omega) (by omega)
        obtain ⟨ad1', e1', hx2⟩ := Kd.at_int (Kd.C_below HR.out HB.out) 1 (by omega) (by omega)
        rw [e1] at e1'
        cases e1'
        subst e1
        rw [show rd l 0 = x0 by rw [hl]; rfl] at hx1
        rw [show rd l 1 = y0 by rw [hl]; rfl] at hx2
        have h2' : (l.length : Int) = 2 := by omega
        have A3 := Aside0.mk (S3.out x0 y0 hl)
        have M3 := Aside0.mk (P3.out x0 y0 hl)
        have hx1' : w9.cell? ad1 = some (.int .i64 x0) := by simpa [Addr.add] using hx1
        have hx2' : w9.cell? { block := ad1.block, off := ad1.off + 1 } = some (.int .i64 y0) := by simpa [Addr.add] using hx2
        clear hx1 hx2 S3 P3
        go_wp2_with fail
        go_quiet (first | (go_at_call 11; exact Calls.quiet_of_same (A3.out _)))
        replace hx1' : (w9.drewN nq).cell? ad1 = some (.int .i64 x0) := hx1'
        replace hx2' : (w9.drewN nq).cell? { block := ad1.block, off := ad1.off + 1 } = some (.int .i64 y0) := hx2'
        replace HB := Aside0.mk (pw_below_drewN HB.out nq)
        generalize w9.drewN nq = W9 at *
        go_wp2_with fail
        go_quiet (first | (go_at_call 15; exact Calls.quiet_of_same (M3.out _)))
        go_wp2_with fail
        go_ret
        exact ⟨rfl, pw_below_drewN HB.out _⟩
      · have h2' : ¬ (l.length : Int) = 2 := by omega
        go_wp2_with fail
        go_ret
        exact ⟨rfl, HB.out⟩
    · go_upto_if 35 with (fail)
      go_cut [8] from 27 to 60 (fun v8 wc => ∃ q : Nat, q < left.length ∧ v8 = .int .i64 (q : Nat) ∧ Aside0 (Kd.R (Kd.int .i64) 2 wc w.heap.size (fun k_ => some k_ = (.slice A5 left.length c5 : Value).ownBlock) (.slice A5 left.length c5) left) ∧ Aside0 (Kd.R (Kd.int .i64) 2 wc w.heap.size (fun k_ => some k_ ≠ (.slice A5 left.length c5 : Value).ownBlock) (.slice A6 other.length c6) other) ∧ Aside0 (Below w.heap.size w wc))
      case first =>
        by_cases hi : other.length < ps.length
        · have hround := Aside0.mk (fun W => round_any (rd ps (other.length : Int)) left.length hpos (by omega) W)
          obtain ⟨ad1, e1, hx1⟩ := Kd.at_int (Kd.C_below HR1.out HB.out) (other.length : Int) (by omega) (by omega)
          cases e1
          simp only [Int.toNat_natCast] at hx1
          go_wp2_with fail
          refine (hround.out _).mono ?_
          rintro e_ w3 ⟨⟨q, hq, rfl⟩, rfl⟩
          clear hx1
          go_wp2_with fail
          go_meet
          case rel => exact ⟨q, hq, rfl, HL, HO, HB⟩
        · go_wp2_with fail
          go_meet
          case rel => exact ⟨0, hpos, rfl, HL, HO, HB⟩
      case rest =>
        clear HL HO HB
        obtain ⟨q, hq, rfl, HL, HO, HB⟩ := hcut
        obtain ⟨ad2, e2, hx2⟩ := Kd.at_int (Kd.R_reads' HL.out).2.2 (q : Int) (by omega) (by omega)
        cases e2
        simp only [Int.toNat_natCast] at hx2
        go_wp2_with (first | ((with_reducible refine gate_builtin (b := .append) (xs := #[.tmp 43, .tmp 48]) rfl ?_); (try (refine gate_guard (by rfl) ?_; dsimp only)); at_builtin; refine Kd.R_append (Kd.int .i64) (w0 := w) w.heap.size rfl (.tmp 43) (.tmp 48) 31 2 (.int .i64 0) 8 rfl Try.underlying31 info2 rfl (by decide) (by omega) (.slice A6 other.length c6) other (rd left (q : Int)) [.int .i64 (rd left (q : Int))] (fun k_ => some k_ ≠ (.slice (some ad2) left.length c5 : Value).ownBlock) (fun _ => False) rfl rfl ?aP (fun _ hk => hk.elim) ?aF ?aO ?aB ?aS ?aL ?_; (case aP => exact rfl); (case aB => exact (by repeat (first | (with_reducible first | exact HB.out | apply below_alloc | apply pw_below_drewN | apply below_drew1) | exact HB.out))); (case aF => exact (fun k_ hk he => absurd (Kd.R_lt HL.out k_ he.symm) (Nat.not_lt.2 hk))); (case aO => exact HO.out); (case aS => exact (below_size (by repeat (first | (with_reducible first | exact HB.out | apply below_alloc | apply pw_below_drewN | apply below_drew1) | exact HB.out)))); (case aL => have := hL1; omega); intro v7 w4 ho hb hg hat; (have hl4 := Kd.R_grown HL.out hg (fun k_ hk he => HO.out.1 k_ he.symm hk)); clear HL HO HB; have HL := Aside0.mk hl4; have HO := Aside0.mk ho; have HB := Aside0.mk hb; clear hl4 ho hb hg hat))
        have hg5 : ∃ g, ad2 = ⟨g, 0, none⟩ := Kd.R_head HL.out
        have hc5 : left.length ≤ c5 := (Kd.R_reads' HL.out).2.1
        obtain ⟨i0, hi0, _, hsz0, _⟩ := info_parts info2
        have hcut1 := cut_to (P := Try.prog) 31 2 .i64 Try.underlying31 hi0 (some ad2) left.length c5 (q : Int) (by omega) (by omega) hc5
        have hcut2 := cut_from (P := Try.prog) 31 2 .i64 Try.underlying31 hi0 1 hsz0 (some ad2) left.length c5 ((q : Int) + 1) (by omega) (by omega)
        have e1 : ((q : Int) + 1).toNat = q + 1 := by omega
        rw [e1] at hcut2
        rw [Int.toNat_natCast] at hcut1
        have hT := Aside0.mk (Kd.C_take (Kd.R_reads' HL.out).2.2 (m := q) (by omega))
        rw [show (left.take q).length = q by rw [List.length_take]; omega] at hT
        clear hsz0 hi0
        have hq1 : wrap64 ((q : Int) + 1) = (q : Int) + 1 := by unfold wrap64; omega
        have hq2 : IntKind.i64.wrap ((q : Int) + 1) = (q : Int) + 1 := by rw [IntKind.wrap_i64]; omega
        have hl1 : (([] : List Int).length + q) * 8 ≤ 140737488355328 := by simp only [List.length_nil]; omega
        have hl2 : ((left.take q).length + (left.length - (q + 1))) * 8 ≤ 140737488355328 := by rw [List.length_take]; omega
        have hD : ∀ W : World, Kd.C (Kd.int .i64) W (some ad2) left.length left → Kd.C (Kd.int .i64) W (if c5 = q + 1 then some ad2 else some { block := ad2.block, off := ad2.off + (q + 1) }) (left.length - (q + 1)) (left.drop (q + 1)) := fun W h => by
          have h2 := Kd.C_drop h (m := q + 1) (by omega) hc5
          rw [show (left.drop (q + 1)).length = left.length - (q + 1) from List.length_drop, show (Kd.int .i64).sz = 1 from rfl, Nat.mul_one] at h2
          obtain ⟨g, rfl⟩ := hg5
          exact h2
        go_region_held3 (fun _ => True) (exact trivial) (first | (refine Kd.R_append_rows_step (Kd.int .i64) (w0 := w) w.heap.size (by rfl) (.tmp 50) (.tmp 53) 31 2 (.int .i64 0) 8 rfl Try.underlying31 info2 rfl (by decide) (by omega) (.slice none 0 0) ([] : List Int) (left.take q) _ _ _ (fun _ => True) (fun _ => False) rfl rfl ?aO ?aR (fun _ _ h => h) (fun _ h => h.elim) ?aF ?aB ?aS ?aL ?_; (case aR => exact Kd.C_drew hT.out); (case aB => exact (Below.drew HB.out)); (case aF => exact (fun _ _ => trivial)); (case aO => exact (Kd.R_nil _ _ _ _ (fun _ => True))); (case aS => exact (below_size (Below.drew HB.out))); (case aL => exact hl1); intro v8 w5 ho hb hg hat; (have hl5 := Kd.R_grown (Kd.R_drew HL.out) hg (fun _ _ h_ => by cases h_)); (have ho5 := Kd.R_grown (Kd.R_bound (Kd.R_drew HO.out)) hg (fun _ _ h_ => by cases h_)); have HS5 := hg.size; clear HL HO HB; have HL := Aside0.mk hl5; have HO := Aside0.mk ho5; have HB := Aside0.mk hb; have HV := Aside0.mk ho; have HAT := Aside0.mk hat; clear hl5 ho5 ho hb hg hat) | (refine Kd.R_append_rows_step (Kd.int .i64) (w0 := w) w.heap.size (by rfl) (.tmp 54) (.tmp 58) 31 2 (.int .i64 0) 8 rfl Try.underlying31 info2 rfl (by decide) (by omega) v8 (left.take q) (left.drop (q + 1)) _ _ _ (fun _ => True) (fun _ => False) rfl rfl ?aO ?aR (fun _ _ h => h) (fun _ h => h.elim) ?aF ?aB ?aS ?aL ?_; (case aR => exact (hD _ (Kd.R_reads' HL.out).2.2)); (case aB => exact (HB.out)); (case aF => exact (fun _ _ => trivial)); (case aO => exact HV.out); (case aS => exact (below_size (HB.out))); (case aL => exact hl2); intro v9 w6 ho hb hg hat; have HV9 := Aside0.mk ho; have HG9 := Aside0.mk hg; have HB9 := Aside0.mk hb; have HAT9 := Aside0.mk hat; clear ho hb hg hat))
        obtain ⟨A9, c9, e9⟩ := Kd.R_slice HV9.out
        subst e9
        have HO9 := Kd.R_grown HO.out HG9.out (fun k_ hk he => by
          rcases HAT.out with e | ⟨b, e, hb⟩
          · rw [e] at he; cases he
          · rw [e] at he; injection he with he; have h3 := hk.2.2.1; omega)
        have HO9' := Kd.R_mono (ok' := fun k_ => some k_ ≠ (.slice A9 (left.take q ++ left.drop (q + 1)).length c9 : Value).ownBlock) HO9 (fun k_ hk he => by
          have h3 := hk.2.2.1
          rcases HAT9.out with e | ⟨b, e, hb⟩
          · rw [e] at he
            rcases HAT.out with e | ⟨b, e, hb⟩
            · rw [e] at he; cases he
            · rw [e] at he; injection he with he; omega
          · rw [e] at he; injection he with he; omega)
        replace HV9 := Aside0.mk (Kd.R_tight rfl HV9.out)
        replace HO9' := Aside0.mk HO9'
        clear HO9 HAT HAT9 HG9 HL HO HB HV HS5 hD hT hcut1 hcut2 hx2
        have hperm := perm_pick hq HP.out
        have hlt : (left.take q ++ left.drop (q + 1)).length < left.length := by rw [List.length_append, List.length_take, List.length_drop]; omega
        generalize left.take q ++ left.drop (q + 1) = left' at *
        go_wp2_with fail
        go_roundw
        case rel => exact ⟨A9, c9, left', other ++ [rd left (q : Int)], rfl, by rw [List.length_append, List.length_singleton]; go_num, ⟨hperm⟩, HV9, HO9', HB9⟩
        case measure => simp only [sliceLen]; exact hlt
theorem sum_perm {l m : List Int} (h : l.Perm m) : l.sum = m.sum := by
  induction h with
  | nil => rfl
  | cons x _ ih => simp [ih]
  | swap x y l => simp only [List.sum_cons]; omega
  | trans _ _ h1 h2 => exact h1.trans h2
theorem prodZ_perm {l m : List Int} (h : l.Perm m) : prodZ l = prodZ m := by
  induction h with
  | nil => rfl
  | cons x _ ih => simp [prodZ, ih]
  | swap x y l => simp only [prodZ]; rw [← Int.mul_assoc, ← Int.mul_assoc, Int.mul_comm y x]
  | trans _ _ h1 h2 => exact h1.trans h2
theorem order_any (A : Option Addr) (c : Nat) (l : List Int) (A1 : Option Addr) (c1 : Nat) (ps : List Int) (w : World) (hr : Kd.C (Kd.int .i64) w A l.length l) (hc : l.length ≤ c) (hr1 : Kd.C (Kd.int .i64) w A1 ps.length ps) (hc1 : ps.length ≤ c1) (hll : l.length * 8 ≤ 140737488351232) (hpl : ps.length ≤ maxLen) (hw : ∀ x ∈ l, InR x) :
    Calls Try.prog 8 #[.slice A l.length c, .slice A1 ps.length c1] w fun e w' => e = .returned (.bool true) ∧ Below w.heap.size w w' := by
  obtain ⟨s, e, hs⟩ := told_tup l.sum
  obtain ⟨p, f, hp⟩ := told_tup (prodZ l)
  have hm : ∀ other : List Int, other.Perm l → ∀ z : Int, InR z → (∀ x ∈ other ++ [z], InR x) ∧ (other ++ [z]).length ≤ 17592186044416 := fun other ho z hz => by
    constructor
    · intro x hx
      rcases List.mem_append.1 hx with h | h
      · exact hw x (ho.mem_iff.1 h)
      · rw [List.mem_singleton.1 h]; exact hz
    · rw [List.length_append, ho.length_eq, List.length_singleton]; omega
  refine order_walk A c l A1 c1 ps w hr hc hr1 hc1 hll hpl s e p f (fun W h => ?_) (fun other ho W A c h => ?_) (fun a b e W => ?_) (fun W h => ?_) (fun other ho W A c h => ?_) (fun a b e W => ?_)
  · rw [← hs]
    exact sum_any l _ W (IntsAny.ofC h) hw (by omega)
  · obtain ⟨h1, h2⟩ := hm other ho 0 (by unfold InR; omega)
    rw [← hs, show l.sum = (other ++ [0]).sum by rw [List.sum_append, sum_perm ho]; simp]
    exact sum_any _ _ W (IntsAny.ofC h) h1 h2
  · subst e
    rw [← hs, show ([a, b] : List Int).sum = a + b by simp]
    exact add_any a b (hw a (by simp)) (hw b (by simp)) W
  · rw [← hp]
    exact product_any l _ W (IntsAny.ofC h) hw (by omega)
  · obtain ⟨h1, h2⟩ := hm other ho 1 (by unfold InR; omega)
    rw [← hp, show prodZ l = prodZ (other ++ [1]) by rw [prodZ_append, prodZ_perm ho]; simp [prodZ]]
    exact product_any _ _ W (IntsAny.ofC h) h1 h2
  · subst e
    rw [← hp, show prodZ ([a, b] : List Int) = a * b by simp [prodZ]]
    exact mul_any a b (hw a (by simp)) (hw b (by simp)) W
end Go.Proofs.Ytacmheeodhjlbaa
