/- The bags laws' awake. -/
import Derived.Test.YtcekipbjimbinaaNew
import Derived.Laws.ResultCell
namespace Go.Proofs.Ytcekipbjimbinaa
open Go.RowKit Go.Shelf Go.WideShapes Go.Maps

theorem info_val : (Try.prog.info? 40).map (fun i => (i.zero, i.size, i.bytes)) = some (some (.agg #[.int .i64 0, .int .i64 0, .float .f64 0, .complex .f64 0 0, .string ByteArray.empty]), 5, 56) := by kernel_rfl
theorem vals_not_nil (g L c : Nat) (w : World) : (Go.binOp .eql 29 (.slice (some ⟨g, 0, none⟩) L c) (.slice none 0 0)).run Try.prog w = .ok (.bool false) w := by kernel_rfl
/-- The payload that awake puts in. -/
def nine : List Value := [.int .i64 1, .int .i64 9, .float .f64 0, .complex .f64 0 0, .string ByteArray.empty]
/-- A slice of one value, 9. -/
def One (w : World) (g : Nat) : Prop := ∃ cs : Array Value, w.heap[g]? = some (Obj.cells cs 40 (0, 0)) ∧ ∀ k, k < 5 → cs[k]? = nine[k]?
theorem One.keep {w w' : World} {g : Nat} (h : One w g) (hk : ∀ (k : Nat) (cur : Array Value), w.heap[k]? = some (Obj.cells cur 40 (0, 0)) → w'.heap[k]? = w.heap[k]?) : One w' g := by
  obtain ⟨cs, e, h⟩ := h
  exact ⟨cs, (hk g cs e).trans e, h⟩
theorem One.below {w w' : World} {g : Nat} (h : One w g) (hB : Below w.heap.size w w') : One w' g := h.keep (fun k _ e => hB.block k (Array.getElem?_eq_some_iff.1 e).1)
theorem One.cell {w : World} {g : Nat} (h : One w g) (k : Nat) (hk : k < 5) : w.cell? ⟨g, k, none⟩ = nine[k]? := by
  obtain ⟨cs, e, h⟩ := h
  rw [cell_of_row w g k cs _ _ e, h k hk]
theorem clone_val {w : World} {g c : Nat} (h : One w g) :
    Calls Try.prog 16 #[.slice (some ⟨g, 0, none⟩) 1 c] w fun e w' => ∃ g' c', e = .returned (.slice (some ⟨g', 0, none⟩) 1 c') ∧ One w' g' ∧ w.heap.size ≤ g' ∧ Below w.heap.size w w' := by
  obtain ⟨i0, hi, hz0, hz1, hz2⟩ := info_parts info_val
  have hnn := vals_not_nil
  have hown : (w.alloc (.cells #[] 40)).ownsRow w.heap.size 40 5 (.slice (some ⟨w.heap.size, 0, none⟩) 0 0) 0 [] := World.ownsRow_made w #[] 0 (Nat.le_refl _) (by simp) (by simp)
  have h1 := h.below ((Below.refl _ w).alloc (Nat.le_refl _) (.cells #[] 40))
  have hap := run_append_own (P := Try.prog) (w.alloc (.cells #[] 40)) w.heap.size 29 29 40 i0 _ 5 56 Try.underlying29 hi hz0 hz1 hz2 rfl (by decide) _ 0 [] hown ⟨g, 0, none⟩ 1 c nine rfl (fun k u hu => by
    rw [Go.WideShapes.add_plain, Nat.zero_add, h1.cell k (by
      rcases Nat.lt_or_ge k 5 with h | h
      · exact h
      · rw [List.getElem?_eq_none (by simpa [nine] using h)] at hu; cases hu), hu]) (fun u hu => by
    simp [nine] at hu
    rcases hu with rfl | rfl | rfl | rfl | rfl <;> rfl) (by unfold maxLen; omega) (by omega) (by simp)
  have hap2 : ∃ v' w', (Builtin.append_ #[29, 29] 29 #[.slice (some ⟨w.heap.size, 0, none⟩) 0 0, .slice (some ⟨g, 0, none⟩) 1 c]).run Try.prog (w.alloc (.cells #[] 40)) = .ok v' w' ∧ (∃ g' c', v' = .slice (some ⟨g', 0, none⟩) 1 c' ∧ One w' g' ∧ w.heap.size ≤ g' ∧ Below w.heap.size w w') := by
    obtain ⟨v', w', r1, ho, hg, _⟩ := hap
    refine ⟨v', w', r1, ?_⟩
    rcases ho.2 with ⟨_, h0⟩ | ⟨g', cap, cur, e, hb, hgg, _, _, hcs, htk⟩
    · omega
    · subst e
      refine ⟨g', cap, rfl, ⟨cur, hgg, fun k hk => ?_⟩, hb, ((Below.refl _ w).alloc (Nat.le_refl _) _).grown hg (by simp) (fun k e => ?_)⟩
      · have e2 : (cur.toList.take ((0 + 1) * 5))[k]? = ([] ++ nine)[k]? := by rw [htk]
        rw [List.nil_append, List.getElem?_take, if_pos (by omega)] at e2
        rw [← e2]; simp
      · have : w.heap.size = k := by simpa [Value.ownBlock] using e
        omega
  replace hap2 := Lib.hid hap2
  clear hap hown h1
  go_enter Try.func16, Try.ntmps16
  go_wp2_with (at_builtin; refine wpList_append_known _ rfl (.tmp 5) (.tmp 6) 29 rfl _ _ rfl rfl _ hap2.out ?_; rintro v1 w5 ⟨g', c', rfl, h1, h2, h3⟩)
  go_ret
  exact ⟨_, _, rfl, h1, h2, h3⟩
theorem results_box {Q : Program} {fn : Func} {p u : Tmp} {ty : TypeId} (h : fn.results = #[.cell p ty, .tmp u]) (tmps : Array Value) (w : World) (g : Nat) (t : TypeId) (cs : Array Value) (fr : Nat × Nat) (d : TypeDesc)
    (hp : tmps.getD p undef = .pointer (some ⟨g, 0, none⟩)) (hg : w.heap[g]? = some (.cells cs t fr))
    (hu : Q.underlying ty = some d) (hd : (match d with | .struct _ | .array _ _ => true | _ => false) = true) (hi : (Q.info? ty).map (·.size) = some cs.size) :
    (results fn tmps).run Q w = .ok (.tuple #[.agg cs, tmps.getD u undef]) w := by
  rw [results_cell_tmp h, hp]
  simp [asAddr, run_loadVar_row w g t ty cs fr d hg hu hd hi, Result.andThen]
variable {P : Pl} {B : Nat} {w : World} {b : Nat} {tv : Value} {mb : Nat} {qv : Value} {D : DataW Unit} {ss : List ByteArray} {qs : Nat → Qd} {its : Nat → List (Int × Int)} {full : Nat} {last lm : Int}
theorem box_at (h : Box P B w b tv mb qv D ss qs its full last lm) (j : Nat) (hj : j < ss.length) (id x : Int) (g : Nat) (hits : (its j).getD 0 (0, 0) = (id, x)) (hlen : 0 < (its j).length) (hA : P.A x = some ⟨g, 0, none⟩) (hL : P.L x = 1) (h1 : One w g) :
    Calls Try.prog 9 #[.pointer (some ⟨b, 0, none⟩), .string (ss.getD j ByteArray.empty), .int .i64 0] w fun e w' => ∃ g' c', e = .returned (.tuple #[.agg #[.int .i64 id, .string (ss.getD j ByteArray.empty), .slice (some ⟨g', 0, none⟩) 1 c'], .bool true]) ∧ One w' g' ∧ Below w.heap.size w w' := by
  have hB1 : Below w.heap.size w (w.alloc (.cells #[.int .i64 0, .string { data := #[] }, .slice none 0 0] 31)) := (Below.refl _ w).alloc (Nat.le_refl _) _
  have hb1 := h.below hB1
  have hO := Lib.hid (of_any hb1 j hj)
  have hQ := has_at (hb1.que j hj).has 0 hlen
  rw [hits] at hQ
  simp only [hA, hL] at hQ
  replace hQ := Lib.hid hQ
  have hC := Lib.hid (fun q => clone_val (c := P.C x) ((h1.below hB1).below (below_drawn (Below.refl _ _) q) : One ((w.alloc (.cells #[.int .i64 0, .string { data := #[] }, .slice none 0 0] 31)).drewN q) g))
  have hmsg := Blk.new w #[.int .i64 0, .string { data := #[] }, .slice none 0 0] 31
  have hsz : w.heap.size < (w.alloc (.cells #[.int .i64 0, .string { data := #[] }, .slice none 0 0] 31)).heap.size := by simp
  generalize ss.getD j ByteArray.empty = s at *
  generalize P.C x = pc at *
  replace h := Lib.hid h
  replace hb1 := Lib.hid hb1
  replace h1 := Lib.hid h1
  go_enter Try.func9, Try.ntmps9
  go_wp2_with fail
  generalize hw1 : w.alloc (.cells #[.int .i64 0, .string { data := #[] }, .slice none 0 0] 31) = w1 at *
  replace hw1 := Lib.hid hw1
  replace hmsg := Lib.hid hmsg
  replace hB1 := Lib.hid hB1
  refine hO.out.mono ?_
  rintro e w2 ⟨rfl, rfl⟩
  go_wp2_with fail
  refine hQ.out.mono ?_
  rintro e w3 ⟨rfl, q, rfl⟩
  go_wp2_with fail
  refine (hC.out q).mono ?_
  rintro e w4 ⟨g', c', rfl, ho, hgg, hB4⟩
  have hm4 := hmsg.out.below (below_drawn (Below.refl _ _) q |>.trans hB4) hsz
  have k0 : w4.cell? ⟨w.heap.size, 0, none⟩ = _ := hm4.cell (i := 0) rfl
  have k1 : w4.cell? ⟨w.heap.size, 1, none⟩ = _ := hm4.cell (i := 1) rfl
  have k2 : w4.cell? ⟨w.heap.size, 2, none⟩ = _ := hm4.cell (i := 2) rfl
  have f0 := hm4.free 0
  have f1 := hm4.free 1
  have f2 := hm4.free 2
  replace hm4 := Lib.hid hm4
  replace ho := Lib.hid ho
  replace hB4 := Lib.hid hB4
  go_wp2_with fail
  have hfin : Blk (((w4.setCell ⟨w.heap.size, 0, none⟩ (.int .i64 id)).setCell ⟨w.heap.size, 1, none⟩ (.string s)).setCell ⟨w.heap.size, 2, none⟩ (.slice (some ⟨g', 0, none⟩) 1 c')) w.heap.size #[.int .i64 id, .string s, .slice (some ⟨g', 0, none⟩) 1 c'] 31 := ((hm4.out.set 0 (.int .i64 id)).set 1 (.string s)).set 2 (.slice (some ⟨g', 0, none⟩) 1 c')
  refine bodyPost_ret (results_box rfl _ _ w.heap.size 31 _ (0, 0) _ rfl hfin Try.underlying31 rfl (by kernel_rfl)) rfl ?_
  refine ⟨g', c', rfl, ho.out.keep (fun k cur e => ?_), (((hB1.out.trans ((below_drawn (Below.refl _ _) q).trans (hB4.out.mono (Nat.le_of_lt hsz)))).setCell (p := ⟨w.heap.size, 0, none⟩) (Nat.le_refl _) _).setCell (p := ⟨w.heap.size, 1, none⟩) (Nat.le_refl _) _).setCell (p := ⟨w.heap.size, 2, none⟩) (Nat.le_refl _) _⟩
  have hk : k ≠ w.heap.size := fun e2 => by
    subst e2
    rw [hm4.out.eq] at e
    cases e
  exact (heap_setCell_other _ ⟨_, 2, none⟩ k _ hk).trans ((heap_setCell_other _ ⟨_, 1, none⟩ k _ hk).trans (heap_setCell_other _ ⟨_, 0, none⟩ k _ hk))
theorem box_mask (h : Box P B w b tv mb qv D ss qs its full last lm) : Calls Try.prog 11 #[.pointer (some ⟨b, 0, none⟩)] w fun e w' => e = .returned (.int .u64 (full : Nat)) ∧ w' = w := by
  obtain ⟨c0, c1, c2, c3, c4⟩ := h.cells
  clear h
  go_enter Try.func11, Try.ntmps11
  go_wp2
  go_ret
  exact ⟨rfl, rfl⟩
/-- The payload that the clone is, told by 1. -/
def plOf (g c : Nat) : Pl := ⟨fun i => if i = 1 then some ⟨g, 0, none⟩ else none, fun i => if i = 1 then 1 else 0, fun i => if i = 1 then c else 0, by simp⟩
set_option maxRecDepth 100000 in
set_option maxHeartbeats 4000000 in
theorem awake_any (w : World) : Calls Try.prog 4 #[] w fun e w' => e = .returned (.bool true) ∧ Below w.heap.size w w' := by
  have hB1 : Below w.heap.size w (w.alloc (.cells #[.string { data := #[97] }, .string { data := #[98] }] 9)) := (Below.refl _ w).alloc (Nat.le_refl _) _
  have hrow : (w.alloc (.cells #[.string { data := #[97] }, .string { data := #[98] }] 9)).ownsRow w.heap.size 9 1 (.slice (some ⟨w.heap.size, 0, none⟩) 2 2) 2 (strsV [{ data := #[97] }, { data := #[98] }]) :=
    ⟨rfl, .inr ⟨w.heap.size, 2, #[.string { data := #[97] }, .string { data := #[98] }], rfl, Nat.le_refl _, Blk.new w _ _, Nat.le_refl _, by decide, rfl, rfl⟩⟩
  have hN := Lib.hid (box_new (ss := [{ data := #[97] }, { data := #[98] }]) hrow (fun s hs => by
    simp at hs
    rcases hs with rfl | rfl <;> decide))
  have hsz1 : w.heap.size ≤ (w.alloc (.cells #[.string { data := #[97] }, .string { data := #[98] }] 9)).heap.size := hB1.size
  clear hrow
  go_enter Try.func4, Try.ntmps4
  go_wp2_with fail
  refine hN.out.mono ?_
  generalize w.alloc (.cells #[.string { data := #[97] }, .string { data := #[98] }] 9) = w1 at *
  clear hN
  rintro e w2 ⟨hB2, ⟨_, h64 | hd⟩ | ⟨_, b, tv, mb, qv, D, qs, rfl, hbox⟩⟩
  · exact absurd h64 (by decide)
  · refine absurd (fun a c hac hc => ?_) hd
    have hc2 : c < 2 := hc
    obtain rfl : a = 0 := by omega
    obtain rfl : c = 1 := by omega
    decide
  have hB3 : Below w2.heap.size w2 (w2.alloc (.cells #[.int .i64 1, .int .i64 9, .float .f64 0, .complex .f64 0 0, .string { data := #[] }] 40)) := (Below.refl _ w2).alloc (Nat.le_refl _) _
  have hone : One (w2.alloc (.cells #[.int .i64 1, .int .i64 9, .float .f64 0, .complex .f64 0 0, .string { data := #[] }] 40)) w2.heap.size := ⟨_, Blk.new w2 _ _, fun k hk => by
    match k, hk with
    | 0, _ => rfl
    | 1, _ => rfl
    | 2, _ => rfl
    | 3, _ => rfl
    | 4, _ => rfl⟩
  have hP := Lib.hid (box_put (fun P V => ∃ g, P.A 1 = some ⟨g, 0, none⟩ ∧ P.L 1 = 1 ∧ One V g) (fun P V V' ⟨g, h1, h2, h3⟩ hk => ⟨g, h1, h2, h3.keep hk⟩) (fun _ => True) ⟨Pl.zero, trivial⟩ (fun P _ => (hbox P).below hB3) 1 (by decide) 4 1 (by decide) (by decide) (some ⟨w2.heap.size, 0, none⟩) 1 1 (fun V hBV => (clone_val (c := 1) (hone.below hBV)).mono (by
    rintro e V' ⟨g', c', rfl, ho, _, hB⟩
    exact ⟨hB, plOf g' c', trivial, ⟨g', rfl, rfl, ho⟩, rfl⟩)))
  rw [show ([{ data := #[97] }, { data := #[98] }] : List ByteArray).getD 1 ByteArray.empty = { data := #[98] } from rfl] at hP
  have hlow3 := Lib.hid (hB1.trans ((hB2.mono hsz1).trans (hB3.mono (Nat.le_trans hsz1 hB2.size))))
  replace hbox := Lib.hid hbox
  replace hone := Lib.hid hone
  replace hB1 := Lib.hid hB1
  replace hB2 := Lib.hid hB2
  replace hB3 := Lib.hid hB3
  go_wp2_with fail
  refine hP.out.mono ?_
  rintro e w4 ⟨rfl, P, d', _, ⟨g, hA, hL, h1⟩, hb4, hB4⟩
  have hAt := box_at hb4 1 (by decide) 4 1 g (by rw [upd_same]; rfl) (by rw [upd_same]; decide) hA hL h1
  rw [show ([{ data := #[97] }, { data := #[98] }] : List ByteArray).getD 1 ByteArray.empty = { data := #[98] } from rfl] at hAt
  replace hAt := Lib.hid hAt
  have hlow4 := Lib.hid (hlow3.out.trans (hB4.mono hsz1))
  have hsz4 : w1.heap.size ≤ w4.heap.size := Nat.le_trans hb4.lo (Nat.le_of_lt hb4.blk.lt)
  replace hb4 := Lib.hid hb4
  replace hB4 := Lib.hid hB4
  replace h1 := Lib.hid h1
  go_wp2_with fail
  refine hAt.out.mono ?_
  rintro e w5 ⟨g', c', rfl, h5, hB5⟩
  have e1 := Blk.new (w5.alloc (.cells #[.int .i64 4, .string { data := #[98] }, .slice (some ⟨g', 0, none⟩) 1 c'] 31)) #[.int .i64 1] 3
  rw [World.size_alloc] at e1
  have e2 := (Blk.new w5 #[.int .i64 4, .string { data := #[98] }, .slice (some ⟨g', 0, none⟩) 1 c'] 31).alloc (.cells #[.int .i64 1] 3)
  have hB6 : Below w5.heap.size w5 ((w5.alloc (.cells #[.int .i64 4, .string { data := #[98] }, .slice (some ⟨g', 0, none⟩) 1 c'] 31)).alloc (.cells #[.int .i64 1] 3)) := ((Below.refl _ w5).alloc (Nat.le_refl _) _).alloc (by simp) _
  have h6 := h5.below hB6
  have hb6 := (hb4.out.below hB5).below hB6
  have hlow6 := Lib.hid (hlow4.out.trans ((hB5.mono (Nat.le_trans hsz1 hsz4)).trans (hB6.mono (Nat.le_trans (Nat.le_trans hsz1 hsz4) hB5.size))))
  have hOf := of_one (w5.heap.size + 1) _ (e1.cell rfl)
  replace e1 := Lib.hid e1
  replace e2 := Lib.hid e2
  replace h6 := Lib.hid h6
  replace hb6 := Lib.hid hb6
  replace h5 := Lib.hid h5
  replace hB5 := Lib.hid hB5
  replace hB6 := Lib.hid hB6
  replace hOf := Lib.hid hOf
  go_wp2_with fail
  generalize hW6 : ((w5.alloc (.cells #[.int .i64 4, .string { data := #[98] }, .slice (some ⟨g', 0, none⟩) 1 c'] 31)).alloc (.cells #[.int .i64 1] 3)) = w6 at *
  replace hW6 := Lib.hid hW6
  refine hOf.out.mono ?_
  rintro e w7 ⟨rfl, q, rfl⟩
  have m0 : w6.cell? ⟨w5.heap.size, 0, none⟩ = some (.int .i64 4) := e2.out.cell rfl
  have m2 : w6.cell? ⟨w5.heap.size, 2, none⟩ = some (.slice (some ⟨g', 0, none⟩) 1 c') := e2.out.cell rfl
  have n1 : w6.cell? ⟨g', 1, none⟩ = some (.int .i64 9) := h6.out.cell 1 (by decide)
  have hMk := fun q => box_mask (hb6.out.drewN q)
  rw [show (0 ||| bitN ((1 : Nat) : Int)) = 2 by decide] at hMk
  replace hMk := Lib.hid hMk
  go_wp2_with fail
  refine (hMk.out q).mono ?_
  rintro e w8 ⟨rfl, rfl⟩
  go_wp2_with fail
  go_ret
  exact ⟨rfl, below_drawn hlow6.out q⟩
end Go.Proofs.Ytcekipbjimbinaa
