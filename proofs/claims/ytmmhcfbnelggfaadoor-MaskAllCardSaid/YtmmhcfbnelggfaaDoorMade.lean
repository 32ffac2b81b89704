/- The reference's set of a list of numbers. -/
import Derived.Test.YtmmhcfbnelggfaaDoorSets
namespace Go.Proofs.YtmmhcfbnelggfaaDoor
open Go.RowKit Go.Shelf

/-- The set of a list. -/
def setOfL (l : List Int) (j : Nat) : Bool := l.any fun i => decide (i = (j : Int))
theorem setOfL_snoc (l : List Int) (i : Int) (j : Nat) : setOfL (l ++ [i]) j = (setOfL l j || decide (i = (j : Int))) := by simp [setOfL]
/-- What the reference answers. -/
def madeF (l : List Int) : Nat → Bool := if fits l then setOfL l else fun _ => false
def madeE (l : List Int) : Int := if fits l then 0 else 2
theorem made_word (l : List Int) : maskOf l = word (setOfL l) :=
  eq_word (maskOf_lt l) fun j hj => by
    rw [maskOf_bit, setOfL, Bool.eq_iff_iff, List.any_eq_true, List.any_eq_true]
    constructor
    · rintro ⟨x, hx, hp⟩
      simp only [Bool.and_eq_true, decide_eq_true_eq] at hp
      exact ⟨x, hx, by simpa using hp.2⟩
    · rintro ⟨x, hx, hp⟩
      simp only [decide_eq_true_eq] at hp
      exact ⟨x, hx, by simp; omega⟩
/-- Both answer alike. -/
theorem of_made (l : List Int) : ofTold l = .tuple #[.int .u64 (word (madeF l) : Nat), .int .i64 (madeE l)] := by
  unfold ofTold madeF madeE
  cases h : fits l
  · have e : word (fun _ => false) = 0 := (eq_word (by omega) (fun i _ => Nat.zero_testBit i)).symm
    simp [e]
  · simp [made_word l]

theorem results_row_int {fn : Func} {p q : Tmp} (h : fn.results = #[.cell p 29, .tmp q]) (tmps : Array Value) (w : World) (g : Nat) (f : Nat → Bool) (x : Value)
    (hp : tmps.getD p undef = .pointer (some ⟨g, 0, none⟩)) (hq : tmps.getD q undef = x) (hg : w.heap[g]? = some (.cells (setC f) 29 (0, 0))) :
    (results fn tmps).run Tryd.prog w = .ok (.tuple #[.agg (setC f), x]) w := by
  have hp' : tmps[p]?.getD undef = .pointer (some ⟨g, 0, none⟩) := by simpa using hp
  have hq' : tmps[q]?.getD undef = x := by simpa using hq
  simp [results, h, hp', hq', asAddr, run_loadVar_row w g 29 29 _ (0, 0) _ hg Tryd.underlying29 rfl (size_set f)]

set_option maxRecDepth 100000 in
set_option maxHeartbeats 2000000 in
theorem made_any (u : Value) (l : List Int) (hb : l.length ≤ 9223372036854775807) (w : World) (hu : Ints w u l) :
    Calls Tryd.prog 9 #[u] w fun e w' => e = .returned (.tuple #[.agg (setC (madeF l)), .int .i64 (madeE l)]) ∧ Below w.heap.size w w' := by
  obtain ⟨a, c, rfl⟩ := hu.len
  have hB0 : Below w.heap.size w ((w.alloc (.cells (setC fun _ => false) 29)).alloc (.cells (setC fun _ => false) 29)) := ((Below.refl _ w).alloc (Nat.le_refl _) _).alloc (by simp) _
  replace hu := Lib.hid hu
  obtain ⟨n, hnl⟩ : ∃ n, l.length = n := ⟨_, rfl⟩
  rw [hnl] at hb hu ⊢
  replace hnl := Lib.hid hnl
  replace hB0 := Lib.hid hB0
  go_enter Tryd.func9, Tryd.ntmps9
  go_wp2
  go_loopw [5] (fun i wr => ∃ k : Nat, k ≤ n ∧ i = .int .i64 k ∧ fits (l.take k) = true ∧ Blk wr w.heap.size (setC fun _ => false) 29 ∧ Blk wr (w.heap.size + 1) (setC (setOfL (l.take k))) 29 ∧ Below w.heap.size w wr) (fun i _ => n - (intOf i).toNat)
  case atStart => exact ⟨0, by omega, rfl, rfl, (Blk.new w _ _).alloc _, (by have := Blk.new (w.alloc (.cells (setC fun _ => false) 29)) (setC fun _ => false) 29; simp only [World.size_alloc] at this; exact this), hB0.out⟩
  case round =>
    obtain ⟨k, hk, rfl, hf, b1, b2, hB⟩ := hrel
    by_cases hlt : k < n
    · have hlt' : k < l.length := by rw [hnl.out]; exact hlt
      have hI := hu.out.below hB
      obtain ⟨g1, o1, rfl, hnn, hc1, hx⟩ := hI.at k hlt'
      clear hI hnn
      have hk0 : (0 : Int) ≤ (k : Int) := by omega
      have hk1 : (k : Int) < (n : Int) := by omega
      have ht := take_snoc l k hlt'
      have hfs := fits_snoc (l.take k) (l.getD k 0)
      rw [← ht, hf] at hfs
      have hno : (decide (0 ≤ l.getD k 0) && decide (l.getD k 0 ≤ 63)) = false → fits l = false := fun h => by
        unfold fits
        rw [List.all_eq_false]
        refine ⟨l[k], List.getElem_mem hlt', ?_⟩
        have : l.getD k 0 = l[k] := by simp [List.getD, hlt']
        rw [← this, h]; exact Bool.false_ne_true
      have hs : ∀ j, setOfL (l.take (k + 1)) j = (setOfL (l.take k) j || decide (l.getD k 0 = (j : Int))) := fun j => by rw [ht, setOfL_snoc]
      replace hf := Lib.hid hf
      replace ht := Lib.hid ht
      generalize l.getD k 0 = x at *
      by_cases hin : 0 ≤ x ∧ x ≤ 63
      · obtain ⟨j, rfl⟩ : ∃ j : Nat, x = j := ⟨x.toNat, by omega⟩
        have hj : j < 64 := by omega
        have hfs' : fits (l.take (k + 1)) = true := by rw [hfs]; simp; omega
        have hcj := setC_at _ j hj b2
        have hfj := b2.free j
        have b2' := b2.set j (.bool true)
        rw [setC_set _ (setOfL (l.take (k + 1))) j true hj (by rw [hs]; simp) (fun i hi => by rw [hs]; simp; intro e; omega)] at b2'
        have b1' := b1.other (a := ⟨w.heap.size + 1, j, none⟩) (by simp) (.bool true)
        have hB' : Below w.heap.size w (wr.setCell ⟨w.heap.size + 1, j, none⟩ (.bool true)) := hB.setCell (by simp) _
        have hsz := hB.size
        clear hs hno hfs
        replace hfs' := Lib.hid hfs'
        replace b1 := Lib.hid b1
        replace b2 := Lib.hid b2
        replace b1' := Lib.hid b1'
        replace b2' := Lib.hid b2'
        replace hB' := Lib.hid hB'
        replace hB := Lib.hid hB
        go_wp2
        go_roundw
        case rel => exact ⟨k + 1, by omega, by go_num, hfs'.out, b1'.out, b2'.out, hB'.out⟩
        case measure => simp [intOf]; omega
      · have hno' := hno (by rcases Int.lt_or_le x 0 with h | h; simp; omega; simp; omega)
        have em : madeF l = fun _ => false := by unfold madeF; rw [hno']; rfl
        have ee : madeE l = 2 := by unfold madeE; rw [hno']; rfl
        clear hs hno hfs
        replace hno' := Lib.hid hno'
        replace em := Lib.hid em
        replace ee := Lib.hid ee
        replace b1 := Lib.hid b1
        replace b2 := Lib.hid b2
        replace hB := Lib.hid hB
        have hx' : x < 0 ∨ 63 < x := by omega
        clear hin
        rcases hx' with hx' | hx'
        all_goals
          go_wp2_with (refine wpList_store_row rfl 29 (.tmp 2) (.tmp 24) rfl w.heap.size (setC fun _ => false) rfl rfl 29 _ b1.out.eq (size_set _) (by rw [setC_size]) (setC_one _) ?_)
          refine bodyPost_ret (v := .tuple #[.agg (setC fun _ => false), .int .i64 2]) (results_row_int (fn := Tryd.f9) rfl _ _ w.heap.size _ (.int .i64 2) rfl rfl (setRow_heap _ _ _ _ _ _ b1.out.eq)) rfl ⟨by rw [em.out, ee.out], below_setRow hB.out (Nat.le_refl _) _⟩
    · obtain rfl : k = n := by omega
      have hall : l.take k = l := List.take_of_length_le (by rw [hnl.out]; exact Nat.le_refl _)
      rw [hall] at hf b2
      have em : madeF l = setOfL l := by unfold madeF; rw [hf]; rfl
      have ee : madeE l = 0 := by unfold madeE; rw [hf]; rfl
      replace em := Lib.hid em
      replace ee := Lib.hid ee
      replace hf := Lib.hid hf
      replace hall := Lib.hid hall
      replace b1 := Lib.hid b1
      replace b2 := Lib.hid b2
      replace hB := Lib.hid hB
      go_wp2_with (first | (refine wpList_load_row rfl 29 (.tmp 4) rfl (w.heap.size + 1) rfl 29 _ (0, 0) _ b2.out.eq Tryd.underlying29 rfl (size_set _) ?_) | (refine wpList_store_row rfl 29 (.tmp 2) (.tmp 30) rfl w.heap.size _ rfl rfl 29 _ b1.out.eq (size_set _) (by rw [setC_size, setC_size]) (setC_one _) ?_))
      refine bodyPost_ret (v := .tuple #[.agg (setC (setOfL l)), .int .i64 0]) (results_row_int (fn := Tryd.f9) rfl _ _ w.heap.size _ (.int .i64 0) rfl rfl (setRow_heap _ _ _ _ _ _ b1.out.eq)) rfl ⟨by rw [em.out, ee.out], below_setRow hB.out (Nat.le_refl _) _⟩
end Go.Proofs.YtmmhcfbnelggfaaDoor
