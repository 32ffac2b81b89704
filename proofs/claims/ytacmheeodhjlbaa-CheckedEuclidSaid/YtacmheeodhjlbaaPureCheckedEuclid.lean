/- CheckedEuclid: for every two numbers the law returns true: Euclid's remainder is the chapter's, or the error; each argument reads behind the call as it read before. No condition. -/
import Derived.Test.YtacmheeodhjlbaaPCheckedEuclidx1
namespace Go.Proofs.Ytacmheeodhjlbaa.Pure
open Go.RowKit Go.Proofs.Ytacmheeodhjlbaa.PCheckedEuclid Go.Proofs.YtacmheeodhjlbaaW.PrintWords Go.Proofs.YtacmheeodhjlbaaW.PrintLast

theorem wf_bounds {a : Int} (h : (Lit.int .i64 a).wf = true) : -9223372036854775808 ≤ a ∧ a ≤ 9223372036854775807 := by
  simpa [Lit.wf, IntKind.min, IntKind.max, IntKind.signed, IntKind.bits] using h
theorem wrap_id {a : Int} (h1 : -9223372036854775808 ≤ a) (h2 : a ≤ 9223372036854775807) : wrap64 a = a := by
  unfold wrap64; omega

theorem CheckedEuclid : chordmaillaw03_CheckedEuclid.Pure := by
  intro a n ha hn
  obtain ⟨a1, a2⟩ := wf_bounds ha
  obtain ⟨n1, n2⟩ := wf_bounds hn
  unfold chordmaillaw03_CheckedEuclid.f checked_Euclid.f chordmailref03_Euclid.f
  by_cases h1 : n < 1
  · simp [h1]
  · have h0 : ¬ n = 0 := by omega
    rw [if_neg h1, if_neg h1, if_neg h0]
    by_cases hp : a ≥ 0
    · have ht : Int.tmod a n = a % n := Int.tmod_eq_emod_of_nonneg hp
      have hm := Int.emod_nonneg a h0
      rw [ht, if_neg (by omega), if_pos hp, if_neg h0]
      simp
    · rw [if_neg hp, if_neg h0]
      obtain ⟨m, hm⟩ : ∃ m : Int, m = -(a + 1) := ⟨_, rfl⟩
      have hm0 : 0 ≤ m := by omega
      have hma : a = -(m + 1) := by omega
      rw [wrap_id (a := a + 1) (by omega) (by omega), wrap_id (a := -(a + 1)) (by omega) (by omega), ← hm, wrap_id (a := n - 1) (by omega) (by omega)]
      have ht : Int.tmod m n = m % n := Int.tmod_eq_emod_of_nonneg hm0
      have hta : Int.tmod a n = -((m + 1) % n) := by rw [hma, Int.neg_tmod, Int.tmod_eq_emod_of_nonneg (by omega)]
      have e1 := Int.emod_nonneg m h0
      have e2 := Int.emod_lt_of_pos m (show 0 < n by omega)
      have hs : (m + 1) % n = if m % n + 1 = n then 0 else m % n + 1 := by
        rw [Int.add_emod]
        by_cases hn1 : n = 1
        · subst hn1; simp [Int.emod_one]
        · rw [Int.emod_eq_of_lt (a := 1) (by omega) (by omega)]
          split
          · rename_i h; rw [h, Int.emod_self]
          · exact Int.emod_eq_of_lt (by omega) (by omega)
      rw [ht, hta, hs]
      generalize m % n = q at *
      rw [wrap_id (a := n - 1 - q) (by omega) (by omega)]
      by_cases hq : q + 1 = n
      · rw [if_pos hq]
        simp
        omega
      · rw [if_neg hq, if_pos (by omega), wrap_id (by omega) (by omega)]
        simp
        omega
end Go.Proofs.Ytacmheeodhjlbaa.Pure
