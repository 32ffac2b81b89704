/- A slice of numbers that came in. -/
import Derived.Test.YtacmheeodhjlbaaSum
import Derived.Test.YtacmheeodhjlbaaWSized
import Derived.Test.YtacmheeodhjlbaaWWords
import Derived.OpenShut
import Derived.SizedLaws
import Derived.ChangeSlices
namespace Go.Proofs.Ytacmheeodhjlbaa
open Go.RowKit Go.ChangeShapes Go.WideShapes Go.Proofs.YtacmheeodhjlbaaW.PrintWords

theorem IntsAny.toC {w : World} {a : Option Addr} {c : Nat} {l : List Int} (h : IntsAny w (.slice a l.length c) l) (hm : l.length ≤ 9223372036854775807) : Kd.C (Kd.int .i64) w a l.length l :=
  Kd.C_of_reads (d := (0 : Int)) (h1 := fun _ => rfl) ⟨rfl, hm, fun hp => h.at hp⟩
theorem open_Ints {H : Type} {enc : TypeId × Value → H} {W : World} {t e : TypeId} {a : Option Addr} {len cap : Nat} {d : DataW H} {ps : List MemPlace} {ts : List TypeId} {ds : List (DataW H)} {j : Nat}
    (hu : Try.prog.underlying t = some (.slice e)) (he : Try.prog.underlying e = some (.int .i64)) (hc : Try.prog.cellsOf e = 1) (hb : Try.prog.bytesOf e = 8)
    (hsz : (DataW.weightsEach Try.prog ts ds).all (· ≤ reachBytes) = true) (ht : ts[j]? = some t) (hd : ds[j]? = some d)
    (h : DataW.Trod enc Try.prog W 0 (fun _ => true) true t (.slice a len cap) d ps) :
    ∃ l : List Int, l.length = len ∧ Kd.C (Kd.int .i64) W a l.length l ∧ l.length ≤ cap ∧ l.length * 8 ≤ 140737488351232 ∧ ∀ x ∈ l, InR x := by
  have y := sized_ints hsz ht hd hu he hc hb h
  obtain ⟨fuel, hf⟩ := h
  rcases open_ints hu he hc hf with ⟨hcs, _⟩ | ⟨x, n, c, zs, hcs, _, hl, _, hz, _, hcell, hw⟩
  · simp [Value.cells] at hcs
    obtain ⟨rfl, rfl, rfl⟩ := hcs
    exact ⟨[], rfl, IntsAny.toC (c := 0) ⟨none, 0, rfl, fun hp => absurd hp (by simp)⟩ (by simp), by simp, by simp, by simp⟩
  · simp [Value.cells] at hcs
    obtain ⟨rfl, rfl, rfl⟩ := hcs
    have hln : len ≤ zs.length := by
      rw [hz]
      split
      · exact hl
      · exact Nat.le_refl _
    have hlt : (zs.take len).length = len := by rw [List.length_take]; omega
    refine ⟨zs.take len, hlt, IntsAny.toC (c := cap) ⟨_, _, rfl, fun _ => ⟨x, rfl, fun i hi => ?_⟩⟩ (by omega), by omega, by omega, fun z hz' => open_i64 (hw z (List.mem_of_mem_take hz'))⟩
    rw [hlt] at hi
    rw [hcell i (by omega), List.getD_eq_getElem?_getD, List.getD_eq_getElem?_getD, List.getElem?_take_of_lt hi]
end Go.Proofs.Ytacmheeodhjlbaa
