/- Lists of numbers in memory; the mask of a list; two lists held against one another. -/
import Derived.Test.YtmmhcfbnelggfaaDoorEach
namespace Go.Proofs.YtmmhcfbnelggfaaDoor
open Go.RowKit Go.Shelf

/-- The slice v reads as these numbers. -/
def Ints (w : World) (v : Value) (l : List Int) : Prop :=
  (l = [] ∧ ∃ A c, v = .slice A 0 c) ∨ ∃ b off c, v = .slice (some ⟨b, off, none⟩) l.length c ∧ l.length ≤ c ∧ ∀ i, i < l.length → w.cell? ⟨b, off + i, none⟩ = some (.int .i64 (l.getD i 0))
theorem Ints.keep {w w' : World} {v : Value} {l : List Int} (h : Ints w v l) (hk : ∀ b o x, w.cell? ⟨b, o, none⟩ = some x → w'.cell? ⟨b, o, none⟩ = some x) : Ints w' v l := by
  rcases h with h | ⟨b, off, c, h1, h2, h3⟩
  · exact .inl h
  · exact .inr ⟨b, off, c, h1, h2, fun i hi => hk _ _ _ (h3 i hi)⟩
theorem Ints.below {w w' : World} {v : Value} {l : List Int} (h : Ints w v l) (hB : Below w.heap.size w w') : Ints w' v l :=
  h.keep fun b o _ hx => (hB.cell (p := ⟨b, o, none⟩) (block_lt_of_cell hx)).trans hx
theorem Ints.drewN {w : World} {v : Value} {l : List Int} (h : Ints w v l) (n : Nat) : Ints (w.drewN n) v l := h
theorem Ints.len {w : World} {v : Value} {l : List Int} (h : Ints w v l) : ∃ a c, v = .slice a l.length c := by
  rcases h with ⟨rfl, A, c, rfl⟩ | ⟨b, off, c, rfl, _⟩
  · exact ⟨A, c, rfl⟩
  · exact ⟨_, _, rfl⟩
theorem Ints.at {w : World} {a : Option Addr} {n c : Nat} {l : List Int} (h : Ints w (.slice a n c) l) (i : Nat) (hi : i < l.length) : ∃ b off, a = some ⟨b, off, none⟩ ∧ n = l.length ∧ n ≤ c ∧ w.cell? ⟨b, off + i, none⟩ = some (.int .i64 (l.getD i 0)) := by
  rcases h with ⟨rfl, _⟩ | ⟨b, off, c', h1, h2, h3⟩
  · cases hi
  · cases h1
    exact ⟨b, off, rfl, rfl, h2, h3 i hi⟩
/-- The same numbers as Go's ints. -/
def asInts (l : List Nat) : List Int := l.map fun k : Nat => (k : Int)
theorem Ints.of_own {w : World} {base : Nat} {v : Value} {n : Nat} {l : List Nat} (h : w.ownsRow base 3 1 v n (intsV l)) : Ints w v (asInts l) := by
  have hl : n = l.length := by have := h.1; simpa [intsV] using this.symm
  subst hl
  rcases h.2 with ⟨rfl, h0⟩ | ⟨g, cap, cur, rfl, h4⟩
  · obtain rfl := List.length_eq_zero_iff.1 h0
    exact .inl ⟨rfl, none, 0, rfl⟩
  · refine .inr ⟨g, 0, cap, by simp [asInts], by simp [asInts]; exact h4.2.2.1, fun i hi => ?_⟩
    have hi' : i < l.length := by simpa [asInts] using hi
    have := h.cells rfl i (.int .i64 (l.getD i 0 : Nat)) (by simp [intsV, hi'])
    rw [show (⟨g, 0, none⟩ : Addr).add i = ⟨g, 0 + i, none⟩ from by unfold Addr.add; split <;> simp_all] at this
    rw [this]
    simp [asInts, hi']
/-- A block of three numbers that was just laid. -/
theorem Ints.of_block {w : World} {b : Nat} {l : List Int} {t : TypeId} (h : w.heap[b]? = some (.cells (l.map (Value.int .i64)).toArray t (0, 0))) : Ints w (.slice (some ⟨b, 0, none⟩) l.length l.length) l :=
  .inr ⟨b, 0, l.length, rfl, Nat.le_refl _, fun i hi => by
    rw [cell_of_row w b _ _ t (0, 0) h]
    simp [hi]⟩

theorem ints_bd {l : List Int} (h : l.length * 8 ≤ 140737488355328) : l.length ≤ 9223372036854775807 := by omega

theorem ints_len (a b : Option Addr) (n m c d : Nat) (h : n ≠ m) (w : World) :
    Calls Tryd.prog 11 #[.slice a n c, .slice b m d] w fun e w' => e = .returned (.bool false) ∧ Below w.heap.size w w' := by
  have h' : (n : Int) ≠ (m : Int) := by omega
  have h'' : ((n : Int) != (m : Int)) = true := by simp; omega
  replace h' := Lib.hid h'
  go_enter Tryd.func11, Tryd.ntmps11
  go_wp2
  go_ret
  exact ⟨rfl, Below.refl _ _⟩
set_option maxHeartbeats 800000 in
theorem ints_any (u v : Value) (l r : List Int) (hb : l.length ≤ 9223372036854775807) (w : World) (hu : Ints w u l) (hv : Ints w v r) :
    Calls Tryd.prog 11 #[u, v] w fun e w' => e = .returned (.bool (decide (l = r))) ∧ Below w.heap.size w w' := by
  obtain ⟨a, c, rfl⟩ := hu.len
  obtain ⟨b, d, rfl⟩ := hv.len
  by_cases hl : l.length = r.length
  · have hlb := hl
    have hn : ((l.length : Int) != (r.length : Int)) = false := by simp [hl]
    rw [← hl] at hv
    have hd : ∀ x, x = decide (l = r) → Ending.returned (.bool x) = .returned (.bool (decide (l = r))) := fun x h => by rw [h]
    replace hd := Lib.hid hd
    replace hu := Lib.hid hu
    replace hv := Lib.hid hv
    rw [← hl] at hn ⊢
    replace hl := Lib.hid hl
    replace hlb := Lib.hid hlb
    obtain ⟨n, hnl⟩ : ∃ n, l.length = n := ⟨_, rfl⟩
    rw [hnl] at hn hb ⊢
    replace hnl := Lib.hid hnl
    clear hn
    go_enter Tryd.func11, Tryd.ntmps11
    go_wp2
    go_loopw [5] (fun i wr => ∃ k : Nat, k ≤ n ∧ i = .int .i64 k ∧ (∀ j, j < k → l.getD j 0 = r.getD j 0) ∧ ∃ q, wr = w.drewN q) (fun i _ => n - (intOf i).toNat)
    case atStart => exact ⟨0, by omega, rfl, fun j hj => by omega, 0, rfl⟩
    case round =>
      obtain ⟨k, hk, rfl, hsame, q, rfl⟩ := hrel
      by_cases hlt : k < n
      · obtain ⟨g1, o1, rfl, _, hc1, hx⟩ := hu.out.at k (by rw [hnl.out]; exact hlt)
        obtain ⟨g2, o2, rfl, _, hc2, hy⟩ := hv.out.at k (by rw [← hl.out, hnl.out]; exact hlt)
        have hk0 : (0 : Int) ≤ (k : Int) := by omega
        have hk1 : (k : Int) < (n : Int) := by omega
        by_cases he : l.getD k 0 = r.getD k 0
        · have hne : (l.getD k 0 != r.getD k 0) = false := by rw [he]; simp
          have hs2 : ∀ j, j < k + 1 → l.getD j 0 = r.getD j 0 := fun j hj => by
            rcases Nat.lt_or_ge j k with h | h
            · exact hsame j h
            · obtain rfl : j = k := by omega
              exact he
          generalize l.getD k 0 = x at *
          generalize r.getD k 0 = y at *
          replace he := Lib.hid he
          replace hs2 := Lib.hid hs2
          clear hsame
          go_wp2
          go_quiet (fail)
          go_wp2
          go_roundw
          case rel => exact ⟨k + 1, by omega, by go_num, hs2.out, _, rfl⟩
          case measure => simp [intOf]; omega
        · have hne : (l.getD k 0 != r.getD k 0) = true := by simp only [bne_iff_ne, ne_eq]; exact he
          have hno : Hid (l ≠ r) := Lib.hid fun e => he (by rw [e])
          generalize l.getD k 0 = x at *
          generalize r.getD k 0 = y at *
          replace he := Lib.hid he
          clear hsame
          go_wp2
          go_quiet (fail)
          go_wp2
          go_ret
          exact ⟨hd.out false (by simp [hno.out]), by rw [World.drewN_drewN]; exact below_drawn (Below.refl _ _) _⟩
      · obtain rfl : k = n := by omega
        have hyes : Hid (l = r) := Lib.hid (List.ext_getElem hl.out fun i h1 h2 => by
          have := hsame i (by rw [← hnl.out]; exact h1)
          simpa [List.getD, h1, h2] using this)
        clear hsame
        go_wp2
        go_ret
        exact ⟨hd.out true (by simp [hyes.out]), below_drawn (Below.refl _ _) _⟩
  · have h := ints_len a b l.length r.length c d hl w
    rw [show decide (l = r) = false from by simp; exact fun e => hl (by rw [e])]
    exact h

/-- The mask of a list, where each number is one. -/
def maskOf (l : List Int) : Nat := l.foldl (fun m i => m ||| bitN i) 0
def fits (l : List Int) : Bool := l.all fun i => decide (0 ≤ i) && decide (i ≤ 63)
theorem maskOf_snoc (l : List Int) (i : Int) : maskOf (l ++ [i]) = maskOf l ||| bitN i := by simp [maskOf]
theorem fits_snoc (l : List Int) (i : Int) : fits (l ++ [i]) = (fits l && (decide (0 ≤ i) && decide (i ≤ 63))) := by simp [fits]
theorem take_snoc (l : List Int) (k : Nat) (h : k < l.length) : l.take (k + 1) = l.take k ++ [l.getD k 0] := by
  rw [List.take_succ_eq_append_getElem h]; simp [List.getD, h]
theorem bitN_zero (i : Int) : (((bitN i : Nat) : Int) == 0) = !(decide (0 ≤ i) && decide (i ≤ 63)) := by
  unfold bitN
  split
  · rename_i h
    have := Nat.two_pow_pos i.toNat
    generalize 2 ^ i.toNat = q at *
    simp [h.1, show i ≤ 63 by omega]; omega
  · rename_i h
    by_cases h0 : 0 ≤ i
    · simp [h0]; omega
    · simp [h0]
/-- What mask.Of answers. -/
def ofTold (l : List Int) : Value := if fits l then .tuple #[.int .u64 (maskOf l : Nat), .int .i64 0] else .tuple #[.int .u64 0, .int .i64 2]
set_option maxHeartbeats 800000 in
theorem of_list (u : Value) (l : List Int) (hb : l.length ≤ 9223372036854775807) (w : World) (hu : Ints w u l) :
    Calls Tryd.prog 8 #[u] w fun e w' => e = .returned (ofTold l) ∧ w' = w := by
  obtain ⟨a, c, rfl⟩ := hu.len
  replace hu := Lib.hid hu
  have hd : ∀ x, x = ofTold l → Ending.returned x = .returned (ofTold l) := fun x h => by rw [h]
  replace hd := Lib.hid hd
  obtain ⟨n, hnl⟩ : ∃ n, l.length = n := ⟨_, rfl⟩
  rw [hnl] at hb ⊢
  replace hnl := Lib.hid hnl
  go_enter Tryd.func8, Tryd.ntmps8
  go_wp2
  go_loop [4, 10] (fun m i => ∃ k m' : Nat, k ≤ n ∧ i = .int .i64 k ∧ m = .int .u64 m' ∧ m' < 18446744073709551616 ∧ m' = maskOf (l.take k) ∧ fits (l.take k) = true) (fun _ i => n - (intOf i).toNat)
  case atStart => exact ⟨0, 0, by omega, rfl, rfl, by omega, rfl, rfl⟩
  case round =>
    obtain ⟨k, m', hk, rfl, rfl, hm, he, hf⟩ := hrel
    by_cases hlt : k < n
    · have hlt' : k < l.length := by rw [hnl.out]; exact hlt
      obtain ⟨g1, o1, rfl, _, hc1, hx⟩ := hu.out.at k hlt'
      have hk0 : (0 : Int) ≤ (k : Int) := by omega
      have hk1 : (k : Int) < (n : Int) := by omega
      have hz := bitN_zero (l.getD k 0)
      have hbl := bitN_lt (l.getD k 0)
      have ht := take_snoc l k hlt'
      have hfs := fits_snoc (l.take k) (l.getD k 0)
      have hms := maskOf_snoc (l.take k) (l.getD k 0)
      rw [← ht] at hfs hms
      rw [← he] at hms
      rw [hf] at hfs
      have hor := bits_or_u64_nat m' (bitN (l.getD k 0)) hm hbl
      have horl := or_lt hm hbl
      have hB := fun w => bit_any (l.getD k 0) w
      generalize bitN (l.getD k 0) = bb at *
      by_cases hin : (decide (0 ≤ l.getD k 0) && decide (l.getD k 0 ≤ 63)) = true
      · rw [hin] at hz hfs
        generalize l.getD k 0 = x at *
        replace hz : ((bb : Int) == 0) = false := hz
        replace hB := Lib.hid hB
        replace hfs := Lib.hid hfs
        replace hms := Lib.hid hms
        replace hor := Lib.hid hor
        replace he := Lib.hid he
        replace hf := Lib.hid hf
        replace ht := Lib.hid ht
        replace hin := Lib.hid hin
        go_wp2_with (go_at_call 37; refine (hB.out _).mono ?_; rintro e w' ⟨rfl, rfl⟩)
        go_round
        case rel => exact ⟨k + 1, m' ||| bb, by omega, by go_num, by rw [hor.out], horl, hms.out.symm, hfs.out⟩
        case measure => simp [intOf]; omega
      · have hin' : (decide (0 ≤ l.getD k 0) && decide (l.getD k 0 ≤ 63)) = false := by simpa using hin
        have hno : Hid (fits l = false) := Lib.hid (by
          unfold fits
          rw [List.all_eq_false]
          refine ⟨l[k], List.getElem_mem hlt', ?_⟩
          have : l.getD k 0 = l[k] := by simp [List.getD, hlt']
          rw [← this]; exact hin)
        rw [hin'] at hz hfs
        clear hin hin'
        generalize l.getD k 0 = x at *
        replace hz : ((bb : Int) == 0) = true := hz
        replace hB := Lib.hid hB
        clear hfs hms hor he hf ht
        go_wp2_with (go_at_call 37; refine (hB.out _).mono ?_; rintro e w' ⟨rfl, rfl⟩)
        go_ret2
        exact ⟨hd.out _ (by simp [ofTold, hno.out]), rfl⟩
    · obtain rfl : k = n := by omega
      have hall : l.take k = l := List.take_of_length_le (by rw [hnl.out]; exact Nat.le_refl _)
      rw [hall] at he hf
      replace he := Lib.hid he
      replace hf := Lib.hid hf
      replace hall := Lib.hid hall
      go_wp2
      go_ret2
      exact ⟨hd.out _ (by simp [ofTold, hf.out, he.out]), rfl⟩
end Go.Proofs.YtmmhcfbnelggfaaDoor
