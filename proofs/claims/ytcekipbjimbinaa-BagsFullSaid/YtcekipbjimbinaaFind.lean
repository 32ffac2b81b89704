/- The queue's Find: a search by halves. -/
import Derived.Test.YtcekipbjimbinaaQue
import Derived.LoopTactic
namespace Go.Proofs.Ytcekipbjimbinaa
open Go.RowKit
variable {P : Pl}

/-- The numbers rise. -/
def Rise (f : Nat → Int) (n : Nat) : Prop := ∀ i j, i < j → j < n → f i < f j
def idAt (l : List (Int × Int)) (i : Nat) : Int := (l.getD i (0, 0)).1
theorem find_any {B : Nat} {w : World} {p : Nat} {rv : Value} {rs : List (Int × Int)} {fr n : Nat} {most last : Int} (h : Que P B w p rv rs fr n most last) (hs : Rise (idAt (items rs fr n)) n) (x : Int) :
    Calls Try.prog 32 #[.pointer (some ⟨p, 0, none⟩), .int .i64 x] w fun e w' => ((∃ k, k < n ∧ idAt (items rs fr n) k = x ∧ e = .returned (.tuple #[.int .i64 (k : Nat), .bool true])) ∨ ((∀ k, k < n → idAt (items rs fr n) k ≠ x) ∧ e = .returned (.tuple #[.int .i64 0, .bool false]))) ∧ ∃ q, w' = w.drewN q := by
  have hn0 : n ≤ 8796093022208 := by
    have := h.small
    rcases h.fits with ⟨_, h1⟩ | ⟨_, h1, _⟩ <;> omega
  have hlen := fun q => len_any p (n : Int) (w.drewN q) h.cells.2.2.1
  have hlen0 := Lib.hid (len_any p (n : Int) w h.cells.2.2.1)
  replace hlen := Lib.hid hlen
  have hat : ∀ i, i < n → ∃ g k, (∀ q, Calls Try.prog 28 #[.pointer (some ⟨p, 0, none⟩), .int .i64 (i : Nat)] (w.drewN q) fun e w' => e = .returned (.pointer (some ⟨g, k * 2, none⟩)) ∧ ∃ q', w' = (w.drewN q).drewN q') ∧ w.cell? ⟨g, k * 2, none⟩ = some (.int .i64 (idAt (items rs fr n) i)) := fun i hi => by
    obtain ⟨g, c, k, hv, hf, hi2, hk, hkl, c1, c2⟩ := h.place i hi
    exact ⟨g, k, fun q => qat_any (h.drewN q) hv hf i hi2 k hk, c1⟩
  replace hat := Lib.hid hat
  replace hs := Lib.hid hs
  generalize idAt (items rs fr n) = f at *
  clear h
  go_enter Try.func32, Try.ntmps32
  go_wp2_with fail
  refine hlen0.out.mono ?_
  rintro e w' ⟨rfl, rfl⟩
  go_wp2_with fail
  go_loopw [6, 7] (fun lo hi wr => ∃ a b q : Nat, a ≤ b ∧ b ≤ n ∧ lo = .int .i64 a ∧ hi = .int .i64 b ∧ wr = w'.drewN q ∧ (∀ i, i < a → f i < x) ∧ ∀ i, b ≤ i → i < n → x ≤ f i) (fun lo hi _ => (intOf hi).toNat - (intOf lo).toNat)
  case atStart => exact ⟨0, n, 0, by omega, by omega, rfl, rfl, rfl, fun i hi => by omega, fun i hi hi2 => by omega⟩
  case round =>
    obtain ⟨a, b, q, hab, hbn, rfl, rfl, rfl, hlo, hhi⟩ := hrel
    by_cases hlt : a < b
    · obtain ⟨m, hm⟩ : ∃ m, (a + b) / 2 = m := ⟨_, rfl⟩
      have hm1 : a ≤ m := by omega
      have hm2 : m < b := by omega
      obtain ⟨g, k, hcall, hc⟩ := hat.out m (by omega)
      have hd : ((a : Int) + (b : Int)).tdiv 2 = (m : Int) := by
        rw [Int.tdiv_eq_ediv_of_nonneg (by omega)]; omega
      have hcq : ∀ j, (w'.drewN j).cell? ⟨g, k * 2, none⟩ = some (.int .i64 (f m)) := fun j => hc
      replace hcall := Lib.hid hcall
      replace hlo := Lib.hid hlo
      replace hhi := Lib.hid hhi
      have hrise : ∀ i, i ≤ m → f i ≤ f m := fun i hi => by
        rcases Nat.lt_or_ge i m with h | h
        · exact Int.le_of_lt (hs.out i m h (by omega))
        · rw [show i = m by omega]; exact Int.le_refl _
      have hrise2 : ∀ i, m ≤ i → i < n → f m ≤ f i := fun i hi hin => by
        rcases Nat.lt_or_ge m i with h | h
        · exact Int.le_of_lt (hs.out m i h hin)
        · rw [show i = m by omega]; exact Int.le_refl _
      have hlo2 : f m < x → ∀ i, i < m + 1 → f i < x := fun h i hi => Int.lt_of_le_of_lt (hrise i (by omega)) h
      have hhi2 : ¬ f m < x → ∀ i, m ≤ i → i < n → x ≤ f i := fun h i hi hin => by
        have := hrise2 i hi hin
        omega
      replace hlo2 := Lib.hid hlo2
      replace hhi2 := Lib.hid hhi2
      clear hrise hrise2 hc
      generalize hfm : f m = y at *
      replace hfm := Lib.hid hfm
      by_cases hy : y < x
      · replace hhi2 := Lib.hid hhi2
        go_wp2_with fail
        refine (hcall.out q).mono ?_
        rintro e w2 ⟨rfl, q2, rfl⟩
        go_wp2_with fail
        go_roundw
        case rel => exact ⟨m + 1, b, q + q2, by omega, by omega, by go_num, rfl, rfl, hlo2.out hy, hhi.out⟩
        case measure => simp [intOf]; omega
      · have hy2 : x ≤ y := by omega
        go_wp2_with fail
        refine (hcall.out q).mono ?_
        rintro e w2 ⟨rfl, q2, rfl⟩
        go_wp2_with fail
        go_roundw
        case rel => exact ⟨a, m, q + q2, by omega, by omega, rfl, rfl, rfl, hlo.out, hhi2.out hy⟩
        case measure => simp [intOf]; omega
    · obtain rfl : a = b := by omega
      by_cases han : a < n
      · obtain ⟨g, k, hcall, hc⟩ := hat.out a han
        have hcq : ∀ j, (w'.drewN j).cell? ⟨g, k * 2, none⟩ = some (.int .i64 (f a)) := fun j => hc
        replace hcall := Lib.hid hcall
        replace hlo := Lib.hid hlo
        replace hhi := Lib.hid hhi
        have hno : f a ≠ x → ∀ k, k < n → f k ≠ x := fun h k hk e => by
          rcases Nat.lt_trichotomy k a with h1 | h1 | h1
          · have := hlo.out k h1
            omega
          · exact h (h1 ▸ e)
          · have h2 := hs.out a k h1 hk
            have h3 := hhi.out a (Nat.le_refl _) han
            omega
        replace hno := Lib.hid hno
        clear hc
        obtain ⟨y, hfy⟩ : ∃ y, f a = y := ⟨_, rfl⟩
        rw [hfy] at hcq
        by_cases hy : y = x
        · have t1 : (y == x) = true := by simp [hy]
          have hyes : Hid (f a = x) := Lib.hid (hfy.trans hy)
          replace hfy := Lib.hid hfy
          replace hy := Lib.hid hy
          go_wp2_with fail
          refine (hlen.out q).mono ?_
          rintro e w2 ⟨rfl, rfl⟩
          go_wp2_with fail
          refine (hcall.out q).mono ?_
          rintro e w2 ⟨rfl, q2, rfl⟩
          go_wp2_with fail
          go_ret2
          exact ⟨.inl ⟨a, han, hyes.out, rfl⟩, _, rfl⟩
        · have t1 : (y == x) = false := by simp [hy]
          have hn := hno.out (by rw [hfy]; exact hy)
          replace hn := Lib.hid hn
          replace hfy := Lib.hid hfy
          replace hy := Lib.hid hy
          go_wp2_with fail
          refine (hlen.out q).mono ?_
          rintro e w2 ⟨rfl, rfl⟩
          go_wp2_with fail
          refine (hcall.out q).mono ?_
          rintro e w2 ⟨rfl, q2, rfl⟩
          go_wp2_with fail
          go_ret2
          exact ⟨.inr ⟨hn.out, rfl⟩, _, rfl⟩
      · have hno : ∀ k, k < n → f k ≠ x := fun k hk e => by
          have := hlo k (by omega)
          omega
        replace hno := Lib.hid hno
        clear hlo hhi
        go_wp2_with fail
        refine (hlen.out q).mono ?_
        rintro e w2 ⟨rfl, rfl⟩
        go_wp2_with fail
        go_ret2
        exact ⟨.inr ⟨hno.out, rfl⟩, _, rfl⟩
end Go.Proofs.Ytcekipbjimbinaa
