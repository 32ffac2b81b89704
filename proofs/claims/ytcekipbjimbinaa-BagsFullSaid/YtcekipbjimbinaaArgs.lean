/- A slice of strings that came in. -/
import Derived.Test.YtcekipbjimbinaaAwake
import Derived.OpenShut
import Derived.SizedLaws
import Derived.Deep.Slices
import Derived.ChangeSame
namespace Go.Proofs.Ytcekipbjimbinaa
open Go.RowKit Go.Shelf Go.WideShapes

def StrArg (w : World) (v : Value) (ss : List ByteArray) : Prop :=
  (ss = [] ∧ ∃ a c, v = .slice a 0 c) ∨ ∃ b off c, v = .slice (some ⟨b, off, none⟩) ss.length c ∧ b < w.heap.size ∧ ∀ i, i < ss.length → w.cell? ⟨b, off + i, none⟩ = some (.string (ss.getD i ByteArray.empty))
theorem StrArg.len {w : World} {v : Value} {ss : List ByteArray} (h : StrArg w v ss) : ∃ a c, v = .slice a ss.length c := by
  rcases h with ⟨rfl, a, c, rfl⟩ | ⟨b, off, c, rfl, _⟩
  · exact ⟨a, c, rfl⟩
  · exact ⟨_, c, rfl⟩
theorem StrArg.below {w w' : World} {v : Value} {ss : List ByteArray} (h : StrArg w v ss) (hB : Below w.heap.size w w') : StrArg w' v ss := by
  rcases h with h | ⟨b, off, c, rfl, hb, hc⟩
  · exact .inl h
  · exact .inr ⟨b, off, c, rfl, Nat.lt_of_lt_of_le hb hB.size, fun i hi => (hB.cell (p := ⟨b, _, none⟩) hb).trans (hc i hi)⟩
theorem StrArg.at {w : World} {a : Option Addr} {n c : Nat} {ss : List ByteArray} (h : StrArg w (.slice a n c) ss) (hp : 0 < ss.length) : ∃ b off, a = some ⟨b, off, none⟩ ∧ ∀ i, i < ss.length → w.cell? ⟨b, off + i, none⟩ = some (.string (ss.getD i ByteArray.empty)) := by
  rcases h with ⟨rfl, _⟩ | ⟨b, off, c', e, _, hc⟩
  · exact absurd hp (by simp)
  · cases e
    exact ⟨b, off, rfl, hc⟩
/-- 'append([]string{}, tags...)'. -/
theorem app_strs {w : World} {a : Option Addr} {c : Nat} {ss : List ByteArray} (h : StrArg w (.slice a ss.length c) ss) (hb : ss.length * 16 ≤ 140737488351232) :
    ∃ v' w', (Builtin.append_ #[22, 22] 22 #[.slice (some ⟨w.heap.size, 0, none⟩) 0 0, .slice a ss.length c]).run Try.prog (w.alloc (.cells #[] 9)) = .ok v' w' ∧ (w'.ownsRow w.heap.size 9 1 v' ss.length (strsV ss) ∧ Below w.heap.size w w') := by
  obtain ⟨i0, hi, hz0, hz1, hz2⟩ := info_parts info_str
  have hown : (w.alloc (.cells #[] 9)).ownsRow w.heap.size 9 1 (.slice (some ⟨w.heap.size, 0, none⟩) 0 0) 0 [] := World.ownsRow_made w #[] 0 (Nat.le_refl _) (by simp) (by simp)
  have hB0 : Below w.heap.size w (w.alloc (.cells #[] 9)) := (Below.refl _ w).alloc (Nat.le_refl _) _
  rcases a with _ | ad
  · have h0 : ss = [] := by
      rcases h with ⟨h0, _⟩ | ⟨b, off, c', e, _⟩
      · exact h0
      · cases e
    subst h0
    refine ⟨.slice (some ⟨w.heap.size, 0, none⟩) 0 0, _, ?_, hown, hB0⟩
    simp [Builtin.append_, run_underlying Try.underlying22, sizeOf, typeInfo, hi, Builtin.lenOf, Builtin.firstCells]
    simp [storeCells]
  · have hcells : ∀ k u, (strsV ss)[k]? = some u → (w.alloc (.cells #[] 9)).cell? (ad.add k) = some u := fun k u hu => by
      have hk : k < ss.length := by
        rcases Nat.lt_or_ge k ss.length with h1 | h1
        · exact h1
        · rw [List.getElem?_eq_none (by simpa [strsV] using h1)] at hu; cases hu
      obtain ⟨b, off, e, hc⟩ := (h.below hB0).at (by omega)
      cases e
      rw [Go.WideShapes.add_plain, hc k hk]
      simp [strsV, hk] at hu
      rw [← hu]; simp [hk]
    obtain ⟨v', w', hr, ho, hg, _⟩ := run_append_own (P := Try.prog) (w.alloc (.cells #[] 9)) w.heap.size 22 22 9 i0 (.string ByteArray.empty) 1 16 Try.underlying22 hi hz0 hz1 hz2 rfl (by decide) _ 0 [] hown ad ss.length c (strsV ss) (by simp [strsV]) hcells (fun u hu => by
      obtain ⟨x, _, rfl⟩ := List.mem_map.1 hu
      rfl) (by unfold maxLen; omega) (by omega) (by simp)
    refine ⟨v', w', hr, by simpa using ho, hB0.grown hg (by simp) (fun k e => ?_)⟩
    have : w.heap.size = k := by simpa [Value.ownBlock] using e
    omega
theorem open_StrArg {H : Type} {enc : TypeId × Value → H} {W : World} {a : Option Addr} {len cap : Nat} {d : DataW H} {ps : List MemPlace} {ts : List TypeId} {ds : List (DataW H)} {j : Nat}
    (hsz : (DataW.weightsEach Try.prog ts ds).all (· ≤ reachBytes) = true) (ht : ts[j]? = some 22) (hd : ds[j]? = some d)
    (h : DataW.Trod enc Try.prog W 0 (fun _ => true) true 22 (.slice a len cap) d ps) : ∃ ss : List ByteArray, ss.length = len ∧ StrArg W (.slice a len cap) ss ∧ ss.length * 16 ≤ 140737488351232 ∧ ∀ s ∈ ss, s.size ≤ maxLen := by
  obtain ⟨fuel, hf⟩ := h
  rcases Deep.open_slice1 Try.underlying22 (by kernel_rfl) hf with ⟨hcs, _⟩ | ⟨x, n, c, m, k, V, D, Pl, hcs, _, hl, _, hm, hx, hcell⟩
  · simp [Value.cells] at hcs
    obtain ⟨rfl, rfl, rfl⟩ := hcs
    exact ⟨[], rfl, .inl ⟨rfl, none, 0, rfl⟩, by simp, by simp⟩
  · simp [Value.cells] at hcs
    obtain ⟨rfl, rfl, rfl⟩ := hcs
    obtain ⟨hx, _⟩ := Prod.mk.inj hx
    subst hx
    have z := sized_slice hsz ht hd Try.underlying22
    rw [show Try.prog.bytesOf 9 = 16 by kernel_rfl] at z
    have z' : len * 16 ≤ 140737488351232 := by
      have : reachBytes = 140737488351232 := rfl
      simp only [List.length_map, List.length_range] at z
      have := Nat.mul_le_mul_right 16 (Nat.le_add_right len (m - len))
      omega
    have hlm : len ≤ m := by rw [hm]; simp; exact hl
    have each : ∀ i, i < len → ∃ s : ByteArray, W.cell? (x.add i) = some (.string s) ∧ s.size ≤ maxLen := by
      intro i hi
      obtain ⟨h1, h2⟩ := hcell i (by omega)
      obtain ⟨s, hs, _, hsz⟩ := DataW.trod_string Try.underlying9 h2
      have hs' : V i = .string s := by simpa using hs
      exact ⟨s, by rw [h1, hs'], by first | exact hsz | omega⟩
    obtain ⟨q, hq⟩ := Deep.choose_lt each
    refine ⟨(List.range len).map q, by simp, ?_, by simpa using z', fun s hs => ?_⟩
    · rcases Nat.eq_zero_or_pos len with h0 | h0
      · subst h0
        exact .inl ⟨by simp, _, _, rfl⟩
      · obtain ⟨b, off, spot⟩ := x
        have hspot : spot = none := by simpa [Addr.add] using World.cell?_spot (hq 0 h0).1
        subst hspot
        have hbl : b < W.heap.size := by
          have := World.block_lt_of_cell? W _ (hq 0 h0).1
          simpa [Go.WideShapes.add_plain] using this
        refine .inr ⟨b, off, cap, by simp, hbl, fun i hi => ?_⟩
        rw [List.length_map, List.length_range] at hi
        have e := (hq i hi).1
        rw [Go.WideShapes.add_plain] at e
        rw [e]
        simp [List.getD, hi]
    · obtain ⟨i, hi, rfl⟩ := List.mem_map.1 hs
      exact (hq i (List.mem_range.1 hi)).2
end Go.Proofs.Ytcekipbjimbinaa
