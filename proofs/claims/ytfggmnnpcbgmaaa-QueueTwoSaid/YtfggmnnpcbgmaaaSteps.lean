/- A slice of steps that came in. -/
import Derived.Test.YtfggmnnpcbgmaaaHas
import Derived.OpenShut
import Derived.SizedLaws
import Derived.Deep.Slices
import Derived.ChangeSame
namespace Go.Proofs.Ytfggmnnpcbgmaaa
open Go.RowKit Go.Shelf Go.WideShapes

/-- A slice reads as these steps: kind, number, thing. -/
def Steps (w : World) (v : Value) (l : List (Int × Int × Int)) : Prop :=
  (l = [] ∧ ∃ a c, v = .slice a 0 c) ∨ ∃ b off c, v = .slice (some ⟨b, off, none⟩) l.length c ∧ b < w.heap.size ∧ ∀ i, i < l.length →
    w.cell? ⟨b, off + i * 3, none⟩ = some (.int .i64 (l.getD i (0, 0, 0)).1) ∧ w.cell? ⟨b, off + i * 3 + 1, none⟩ = some (.int .i64 (l.getD i (0, 0, 0)).2.1) ∧ w.cell? ⟨b, off + i * 3 + 2, none⟩ = some (.int .i64 (l.getD i (0, 0, 0)).2.2)
theorem Steps.len {w : World} {v : Value} {l : List (Int × Int × Int)} (h : Steps w v l) : ∃ a c, v = .slice a l.length c := by
  rcases h with ⟨rfl, a, c, rfl⟩ | ⟨b, off, c, rfl, _⟩
  · exact ⟨a, c, rfl⟩
  · exact ⟨_, c, rfl⟩
theorem Steps.below {w w' : World} {v : Value} {l : List (Int × Int × Int)} (h : Steps w v l) (hB : Below w.heap.size w w') : Steps w' v l := by
  rcases h with h | ⟨b, off, c, rfl, hb, hc⟩
  · exact .inl h
  · refine .inr ⟨b, off, c, rfl, Nat.lt_of_lt_of_le hb hB.size, fun i hi => ?_⟩
    obtain ⟨h0, h1, h2⟩ := hc i hi
    exact ⟨(hB.cell (p := ⟨b, _, none⟩) hb).trans h0, (hB.cell (p := ⟨b, _, none⟩) hb).trans h1, (hB.cell (p := ⟨b, _, none⟩) hb).trans h2⟩
/-- A step at its place. -/
theorem Steps.at {w : World} {a : Option Addr} {c : Nat} {l : List (Int × Int × Int)} (h : Steps w (.slice a l.length c) l) (i : Nat) (hi : i < l.length) :
    ∃ b off, a = some ⟨b, off, none⟩ ∧ w.cell? ⟨b, off + i * 3, none⟩ = some (.int .i64 (l.getD i (0, 0, 0)).1) ∧ w.cell? ⟨b, off + i * 3 + 1, none⟩ = some (.int .i64 (l.getD i (0, 0, 0)).2.1) ∧ w.cell? ⟨b, off + i * 3 + 2, none⟩ = some (.int .i64 (l.getD i (0, 0, 0)).2.2) := by
  rcases h with ⟨rfl, _⟩ | ⟨b, off, c', e, _, hc⟩
  · exact absurd hi (by simp)
  · cases e
    exact ⟨b, off, rfl, hc i hi⟩
theorem open_Steps {H : Type} {enc : TypeId × Value → H} {W : World} {a : Option Addr} {len cap : Nat} {d : DataW H} {ps : List MemPlace} {ts : List TypeId} {ds : List (DataW H)} {j : Nat}
    (hsz : (DataW.weightsEach Try.prog ts ds).all (· ≤ reachBytes) = true) (ht : ts[j]? = some 34) (hd : ds[j]? = some d)
    (h : DataW.Trod enc Try.prog W 0 (fun _ => true) true 34 (.slice a len cap) d ps) : ∃ l : List (Int × Int × Int), l.length = len ∧ Steps W (.slice a len cap) l ∧ l.length * 24 ≤ 140737488351232 := by
  obtain ⟨fuel, hf⟩ := h
  rcases Deep.open_slice Try.underlying34 hf with ⟨hcs, _⟩ | ⟨x, n, c, m, k, D, Pl, hcs, _, hl, _, hm, hx, hcell⟩
  · simp [Value.cells] at hcs
    obtain ⟨rfl, rfl, rfl⟩ := hcs
    exact ⟨[], rfl, .inl ⟨rfl, none, 0, rfl⟩, by simp⟩
  · simp [Value.cells] at hcs
    obtain ⟨rfl, rfl, rfl⟩ := hcs
    obtain ⟨hx, _⟩ := Prod.mk.inj hx
    subst hx
    have z := sized_slice hsz ht hd Try.underlying34
    rw [show Try.prog.bytesOf 37 = 24 by kernel_rfl] at z
    have z' : len * 24 ≤ 140737488351232 := by
      have : reachBytes = 140737488351232 := rfl
      simp only [List.length_map, List.length_range] at z
      have := Nat.mul_le_mul_right 24 (Nat.le_add_right len (m - len))
      omega
    have hlm : len ≤ m := by rw [hm]; simp; exact hl
    have each : ∀ i, i < len → ∃ q : Int × Int × Int, W.cell? (x.add (i * 3)) = some (.int .i64 q.1) ∧ W.cell? (x.add (i * 3 + 1)) = some (.int .i64 q.2.1) ∧ W.cell? (x.add (i * 3 + 2)) = some (.int .i64 q.2.2) := by
      intro i hi
      obtain ⟨cs', h1, h2⟩ := hcell i (by omega)
      rw [show Try.prog.cellsOf 37 = 3 by kernel_rfl] at h1
      obtain ⟨_, hlen, hc⟩ := World.cells?_some h1
      obtain ⟨xs, k', hk, hxy, _, hxl, hf⟩ := DataW.trod_struct Try.underlying37 h2
      match cs', hlen with
      | [v0, v1, v2], _ =>
        have e0 := hc 0 (by omega)
        have e1 := hc 1 (by omega)
        have e2 := hc 2 (by omega)
        rw [Deep.add_add] at e0 e1 e2
        have h1c : Try.prog.cellsOf 3 = 1 := by kernel_rfl
        match xs, hxl with
        | [y0, y1, y2], _ =>
          obtain ⟨k0, g0, _⟩ := DataW.trod_int Try.underlying3 (hf 0 _ rfl)
          obtain ⟨k1, g1, _⟩ := DataW.trod_int Try.underlying3 (hf 1 _ rfl)
          obtain ⟨k2, g2, _⟩ := DataW.trod_int Try.underlying3 (hf 2 _ rfl)
          simp [h1c] at g0 g1 g2
          subst g0 g1 g2
          exact ⟨(k0, k1, k2), by simpa using e0, by simpa using e1, by simpa using e2⟩
    obtain ⟨q, hq⟩ := Deep.choose_lt each
    refine ⟨(List.range len).map q, by simp, ?_, by simpa using z'⟩
    rcases Nat.eq_zero_or_pos len with h0 | h0
    · subst h0
      exact .inl ⟨by simp, _, _, rfl⟩
    · obtain ⟨b, off, spot⟩ := x
      have hspot : spot = none := by simpa [Addr.add] using World.cell?_spot (hq 0 h0).1
      subst hspot
      have hbl : b < W.heap.size := by
        have := World.block_lt_of_cell? W _ (hq 0 h0).1
        simpa [Go.WideShapes.add_plain] using this
      refine .inr ⟨b, off, cap, by simp, hbl, fun i hi => ?_⟩
      rw [List.length_map, List.length_range] at hi
      have e := hq i hi
      simp only [Go.WideShapes.add_plain] at e
      have e3 : ((List.range len).map q).getD i (0, 0, 0) = q i := by simp [List.getD, hi]
      rw [e3]
      exact e
end Go.Proofs.Ytfggmnnpcbgmaaa
