/- The queue's Copy. -/
import Derived.Test.YtfggmnnpcbgmaaaPair
namespace Go.Proofs.Ytfggmnnpcbgmaaa
open Go.RowKit Go.Shelf

theorem ring_nil (w : World) : (Go.binOp .eql 43 (.slice none 0 0) (.slice none 0 0)).run Try.prog w = .ok (.bool true) w := by kernel_rfl
theorem ring_not_nil (g L c : Nat) (w : World) : (Go.binOp .eql 43 (.slice (some ⟨g, 0, none⟩) L c) (.slice none 0 0)).run Try.prog w = .ok (.bool false) w := by kernel_rfl
theorem clone_any {w : World} {B : Nat} {v : Value} {L : Nat} {rs : List (Int × Int)} (h : w.ownsRow B 47 2 v L (flat rs)) (hL : L ≤ 8796093022208) :
    Calls Try.prog 18 #[v] w fun e w' => ∃ v', e = .returned v' ∧ w'.ownsRow w.heap.size 47 2 v' L (flat rs) ∧ Below w.heap.size w w' := by
  obtain ⟨i0, hi, hz0, hz1, hz2⟩ := info_parts info_row
  rcases h.2 with ⟨rfl, rfl⟩ | ⟨g, cap, cur, rfl, hb, hg, hn, hm, hs, ht⟩
  · have hnn := ring_nil
    have h0 : flat rs = [] := List.eq_nil_of_length_eq_zero (by simpa using h.1)
    rw [h0]
    go_enter Try.func18, Try.ntmps18
    go_wp2_with fail
    go_ret
    exact ⟨_, rfl, World.ownsRow_nil _ _ _ _, Below.refl _ _⟩
  · have hnn := ring_not_nil
    go_enter Try.func18, Try.ntmps18
    have hown : (w.alloc (.cells #[] 47)).ownsRow w.heap.size 47 2 (.slice (some ⟨w.heap.size, 0, none⟩) 0 0) 0 [] := World.ownsRow_made w #[] 0 (Nat.le_refl _) (by simp) (by simp)
    have hsrc := own_belowE h ((Below.refl _ w).alloc (Nat.le_refl _) (.cells #[] 47))
    have hap := run_append_own (P := Try.prog) (w.alloc (.cells #[] 47)) w.heap.size 43 43 47 i0 (.agg #[.int .i64 0, .int .i64 0]) 2 16 Try.underlying43 hi hz0 hz1 hz2 rfl (by decide) _ 0 [] hown ⟨g, 0, none⟩ L cap (flat rs) h.1 (hsrc.cells (g := g) rfl) (fun u hu => by
      obtain ⟨x, _, hx⟩ := List.mem_flatMap.1 hu
      simp at hx
      rcases hx with rfl | rfl <;> rfl) (by unfold maxLen; omega) (by omega) (by simp)
    have hap2 : ∃ v' w', (Builtin.append_ #[43, 43] 43 #[.slice (some ⟨w.heap.size, 0, none⟩) 0 0, .slice (some ⟨g, 0, none⟩) L cap]).run Try.prog (w.alloc (.cells #[] 47)) = .ok v' w' ∧ (w'.ownsRow w.heap.size 47 2 v' L (flat rs) ∧ Below w.heap.size w w') := by
      obtain ⟨v', w', h1, h2, h3, _⟩ := hap
      refine ⟨v', w', h1, by simpa using h2, ((Below.refl _ w).alloc (Nat.le_refl _) _).grown h3 (by simp) (fun k e => ?_)⟩
      have : w.heap.size = k := by simpa [Value.ownBlock] using e
      omega
    replace hap2 := Lib.hid hap2
    clear hap hsrc hown
    go_wp2_with (at_builtin; refine wpList_append_known _ rfl (.tmp 5) (.tmp 6) 43 rfl _ _ rfl rfl _ hap2.out ?_; rintro v1 w5 ⟨ho1, hB1⟩)
    go_ret
    exact ⟨_, rfl, ho1, hB1⟩
theorem row_base {w : World} {B B' : Nat} {v : Value} {n : Nat} {xs : List Value} (h : w.ownsRow B 47 2 v n xs) (hb : B' ≤ B) : w.ownsRow B' 47 2 v n xs := by
  refine ⟨h.1, ?_⟩
  rcases h.2 with h0 | ⟨g, cap, cur, h1, h2, h3⟩
  · exact .inl h0
  · exact .inr ⟨g, cap, cur, h1, Nat.le_trans hb h2, h3⟩
theorem row_slice {w : World} {base : Nat} {v : Value} {n : Nat} {xs : List Value} (h : w.ownsRow base 47 2 v n xs) : ∃ a cap, v = .slice a n cap := by
  rcases h.2 with ⟨e, h0⟩ | ⟨g, cap, cur, e, _⟩
  · exact ⟨none, 0, by rw [e, h0]⟩
  · exact ⟨_, cap, e⟩
theorem copy_any {B : Nat} {w : World} {p : Nat} {rv : Value} {rs : List (Int × Int)} {fr n : Nat} {most last : Int} (h : Que B w p rv rs fr n most last) (hL : rs.length ≤ 8796093022208) :
    Calls Try.prog 15 #[.pointer (some ⟨p, 0, none⟩)] w fun e w' => ∃ p' rv', e = .returned (.pointer (some ⟨p', 0, none⟩)) ∧ Que w.heap.size w' p' rv' rs fr n most last ∧ Below w.heap.size w w' := by
  obtain ⟨ra, rc, rfl⟩ := row_slice h.own
  obtain ⟨c0, c1, c2, c3, c4⟩ := h.cells
  have hB1 : Below w.heap.size w (w.alloc (.cells #[.slice ra rs.length rc, .int .i64 fr, .int .i64 n, .int .i64 most, .int .i64 last] 45)) := (Below.refl _ w).alloc (Nat.le_refl _) _
  have hC := Lib.hid (clone_any (own_belowE h.own hB1) hL)
  have c0' := (h.blk.alloc (.cells #[.slice ra rs.length rc, .int .i64 fr, .int .i64 n, .int .i64 most, .int .i64 last] 45)).cell (i := 0) rfl
  have hblk := Lib.hid (Blk.new w #[.slice ra rs.length rc, .int .i64 fr, .int .i64 n, .int .i64 most, .int .i64 last] 45)
  have hq := Lib.hid h
  replace hB1 := Lib.hid hB1
  clear h
  go_enter Try.func15, Try.ntmps15
  go_wp2_with fail
  refine hC.out.mono ?_
  rintro e w2 ⟨v2, rfl, ho2, hB2⟩
  obtain ⟨a2, f2, rfl⟩ := row_slice ho2
  have hblk2 := hblk.out.below hB2 hblk.out.lt
  have k0 : w2.cell? ⟨w.heap.size, 0, none⟩ = _ := hblk2.cell (i := 0) rfl
  have fz := hblk2.free 0
  replace ho2 := Lib.hid ho2
  replace hB2 := Lib.hid hB2
  replace hblk2 := Lib.hid hblk2
  go_wp2_with fail
  go_ret
  have hsz : (w.alloc (.cells #[.slice ra rs.length rc, .int .i64 fr, .int .i64 n, .int .i64 most, .int .i64 last] 45)).heap.size = w.heap.size + 1 := by simp
  refine ⟨_, _, rfl, ⟨hblk2.out.set 0 _, ownsRow_setCell_other (row_base ho2.out (by omega)) (fun e => ?_) _, Nat.le_refl _, hq.out.fits, hq.out.small, hq.out.most1⟩, (hB1.out.trans (hB2.out.mono (by omega))).setCell (Nat.le_refl _) _⟩
  have h9 : _ ≤ w.heap.size := (ho2.out.lt _ e).1
  omega
/-- A queue whose ring is no longer than a Clone may make. -/
def HasR (B : Nat) (w : World) (p : Nat) (its : List (Int × Int)) (most last : Int) : Prop :=
  ∃ rv rs fr n, Que B w p rv rs fr n most last ∧ items rs fr n = its ∧ Ring rs.length most ∧ Rise (idAt its) its.length ∧ (∀ i, i < its.length → idAt its i ≤ last) ∧ rs.length ≤ 8796093022206
theorem HasR.has {B : Nat} {w : World} {p : Nat} {its : List (Int × Int)} {most last : Int} (h : HasR B w p its most last) : Has B w p its most last := by
  obtain ⟨rv, rs, fr, n, h1, h2, h3, h4, h5, _⟩ := h
  exact ⟨rv, rs, fr, n, h1, h2, h3, h4, h5⟩
theorem HasR.drewN {B : Nat} {w : World} {p : Nat} {its : List (Int × Int)} {most last : Int} (h : HasR B w p its most last) (q : Nat) : HasR B (w.drewN q) p its most last := by
  obtain ⟨rv, rs, fr, n, hq, h2⟩ := h
  exact ⟨rv, rs, fr, n, hq.drewN q, h2⟩
theorem Ring.half {n : Nat} {most : Int} (h : Ring n most) (hn : (n : Int) < most) (hs : n ≤ 5864062014634) : 2 * n + 2 ≤ 8796093022206 := by
  rcases h with ⟨k, h2⟩ | h2
  · have h3 : k ≤ 41 := by
      rcases Nat.lt_or_ge 41 k with h4 | h4
      · have := Nat.pow_le_pow_right (show 0 < 2 by decide) (show 43 ≤ k + 1 by omega)
        omega
      · exact h4
    have := Nat.pow_le_pow_right (show 0 < 2 by decide) (show k + 1 ≤ 42 by omega)
    omega
  · omega
theorem hasR_new (most : Int) (hm : 1 ≤ most) (w : World) :
    Calls Try.prog 7 #[.int .i64 most] w fun e w' => ∃ p, e = .returned (.tuple #[.pointer (some ⟨p, 0, none⟩), .int .i64 0]) ∧ HasR w.heap.size w' p [] most (-1) ∧ Below w.heap.size w w' := by
  refine (new_any most hm w).mono ?_
  rintro e w' ⟨p, rfl, hq, hB⟩
  exact ⟨p, rfl, ⟨_, _, _, _, hq, rfl, .inl ⟨0, rfl⟩, fun i j _ h => absurd h (by simp), fun i h => absurd h (by simp), by simp⟩, hB⟩
theorem hasR_put {B : Nat} {w : World} {p : Nat} {its : List (Int × Int)} {most last : Int} (h : HasR B w p its most last) (id x : Int) (hsm : its.length ≤ 5864062014634) : Calls Try.prog 8 #[.pointer (some ⟨p, 0, none⟩), .int .i64 id, .int .i64 x] w fun e w' =>
    ((e = .returned (.int .i64 0) ∧ last < id ∧ (its.length : Int) < most ∧ HasR B w' p (its ++ [(id, x)]) most id) ∨ (id ≤ last ∧ e = .returned (.int .i64 2) ∧ HasR B w' p its most last) ∨ (last < id ∧ (its.length : Int) = most ∧ e = .returned (.int .i64 120) ∧ HasR B w' p its most last)) ∧ Kp B w w' := by
  obtain ⟨rv, rs, fr, n, hq, rfl, hg, hs, hl, hc⟩ := h
  have hn : (items rs fr n).length = n := items_length _ _ _
  rw [hn] at hsm
  by_cases h1 : id ≤ last
  · refine (put_low hq id x h1).mono ?_
    rintro e w' ⟨rfl, rfl⟩
    exact ⟨.inr (.inl ⟨h1, rfl, _, _, _, _, hq, rfl, hg, hs, hl, hc⟩), Kp.refl _ _⟩
  · have h1' : last < id := by omega
    by_cases h2 : (n : Int) = most
    · subst h2
      refine (put_full hq id x h1').mono ?_
      rintro e w' ⟨rfl, q, rfl⟩
      exact ⟨.inr (.inr ⟨h1', by rw [hn], rfl, _, _, _, _, hq.drewN q, rfl, hg, hs, hl, hc⟩), Kp.drewN _ _ _⟩
    · have h3 : (n : Int) < most := by have := hq.most1; omega
      have hR := rise_snoc (x := x) hs hl h1'
      by_cases h4 : n < rs.length
      · refine (put_room hq id x h1' h4 h3).mono ?_
        rintro e w' ⟨rfl, rs', hq', hi, hle, ho⟩
        refine ⟨.inl ⟨rfl, h1', by rw [hn]; exact h3, _, _, _, _, hq', hi, by rw [hle]; exact hg, hR.1, hR.2, by rw [hle]; exact hc⟩, hq.only (fun k e => e) ho⟩
      · have h5 : n = rs.length := by
          rcases hq.fits with ⟨_, h6⟩ | ⟨_, h6, h7⟩
          · omega
          · rw [h6, h7]; rfl
        refine (put_grow hq id x h1' h5 h3 ((h5 ▸ hg : Ring n most).small h3 (by omega))).mono ?_
        rintro e w' ⟨rfl, rv', rs', hq', hi, hle, ho⟩
        refine ⟨.inl ⟨rfl, h1', by rw [hn]; exact h3, _, _, _, _, hq', hi, (h5 ▸ hg : Ring n most).more h3 hle.1, hR.1, hR.2, by have := (h5 ▸ hg : Ring n most).half h3 hsm; omega⟩, hq.only (fun k e => .inl e) ho⟩
theorem hasR_copy {B : Nat} {w : World} {p : Nat} {its : List (Int × Int)} {most last : Int} (h : HasR B w p its most last) :
    Calls Try.prog 15 #[.pointer (some ⟨p, 0, none⟩)] w fun e w' => ∃ p', e = .returned (.pointer (some ⟨p', 0, none⟩)) ∧ Has w.heap.size w' p' its most last ∧ Below w.heap.size w w' := by
  obtain ⟨rv, rs, fr, n, hq, hi, hr, h3, h4, h5⟩ := h
  refine (copy_any hq (by omega)).mono ?_
  rintro e w' ⟨p', rv', rfl, hq', hB⟩
  exact ⟨p', rfl, ⟨rv', rs, fr, n, hq', hi, hr, h3, h4⟩, hB⟩
theorem copy_nil (w : World) : Calls Try.prog 15 #[.pointer none] w fun e w' => e = .returned (.pointer none) ∧ w' = w := by
  go_enter Try.func15, Try.ntmps15
  go_wp2
  go_ret
  exact ⟨rfl, rfl⟩
end Go.Proofs.Ytfggmnnpcbgmaaa
