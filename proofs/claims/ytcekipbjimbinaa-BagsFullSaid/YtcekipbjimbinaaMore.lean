/- A new ring: made, and filled in place. -/
import Derived.Test.YtcekipbjimbinaaTold
namespace Go.Proofs.Ytcekipbjimbinaa
open Go.RowKit Go.Shelf
variable {P : Pl}

theorem flat_getElem (rs : List (Int × Int)) (k : Nat) (hk : k < 2 * rs.length) : (flat P rs)[k]? = some (if k % 2 = 0 then .int .i64 (rs.getD (k / 2) (0, 0)).1 else .slice (P.A (rs.getD (k / 2) (0, 0)).2) (P.L (rs.getD (k / 2) (0, 0)).2) (P.C (rs.getD (k / 2) (0, 0)).2)) := by
  by_cases h : k % 2 = 0
  · rw [if_pos h]
    have := flat_id (P := P) rs (k / 2) (by omega)
    rwa [show k / 2 * 2 = k by omega] at this
  · rw [if_neg h]
    have := flat_x (P := P) rs (k / 2) (by omega)
    rwa [show k / 2 * 2 + 1 = k by omega] at this
theorem made_rows (m : Nat) : madeCells #[Value.int .i64 0, Value.slice none 0 0] (m * 2) = (flat P (List.replicate m (0, 0))).toArray := by
  apply Array.ext
  · rw [size_madeCells]; simp [flat_length]; omega
  · intro k h1 h2
    have hk : k < 2 * (List.replicate m ((0 : Int), (0 : Int))).length := by
      have := h2
      simp only [List.size_toArray, flat_length] at this
      exact this
    have e := flat_getElem (P := P) (List.replicate m (0, 0)) k hk
    have h3 : (flat P (List.replicate m ((0 : Int), (0 : Int)))).toArray[k]? = some (if k % 2 = 0 then .int .i64 0 else .slice none 0 0) := by
      rw [List.getElem?_toArray, e]
      have hz : (List.replicate m ((0 : Int), (0 : Int))).getD (k / 2) (0, 0) = (0, 0) := by
        simp only [List.length_replicate] at hk
        simp [List.getD, show k / 2 < m by omega]
      rw [hz]
      simp only [P.z.1, P.z.2.1, P.z.2.2]
    have h4 : (flat P (List.replicate m ((0 : Int), (0 : Int)))).toArray[k] = (if k % 2 = 0 then .int .i64 0 else .slice none 0 0) := by
      rw [Array.getElem?_eq_getElem h2] at h3
      exact Option.some.inj h3
    rw [h4]
    simp only [madeCells, Array.getElem_map, Array.getElem_range]
    rcases Nat.mod_two_eq_zero_or_one k with h | h <;> simp [h]
theorem info_row : (Try.prog.info? 78).map (fun i => (i.zero, i.size, i.bytes)) = some (some (.agg #[.int .i64 0, .slice none 0 0]), 2, 32) := by kernel_rfl
/-- The new ring, with these rows in it, and zeroes behind them. -/
def fill (m : Nat) (pre : List (Int × Int)) : List (Int × Int) := pre ++ List.replicate (m - pre.length) (0, 0)
theorem fill_length (m : Nat) (pre : List (Int × Int)) (h : pre.length ≤ m) : (fill m pre).length = m := by simp [fill]; omega
theorem fill_flat (m : Nat) (pre : List (Int × Int)) (x : Int × Int) (h : pre.length < m) :
    (flat P (fill m pre)).take (pre.length * 2) ++ [.int .i64 x.1, .slice (P.A x.2) (P.L x.2) (P.C x.2)] ++ (flat P (fill m pre)).drop (pre.length * 2 + 2) = flat P (fill m (pre ++ [x])) := by
  obtain ⟨r, hr⟩ : ∃ r, m - pre.length = r + 1 := ⟨m - pre.length - 1, by omega⟩
  have e : flat P (fill m pre) = flat P pre ++ (.int .i64 0 :: .slice none 0 0 :: flat P (List.replicate r (0, 0))) := by
    unfold fill
    rw [hr, List.replicate_succ, flat_append, flat_cons]
    simp only [P.z.1, P.z.2.1, P.z.2.2]
  have el : (flat P pre).length = pre.length * 2 := by rw [flat_length]; omega
  rw [e, List.take_append_of_le_length (by omega), List.take_of_length_le (by omega), ← el, List.drop_append]
  rw [List.drop_of_length_le (by omega), show (flat P pre).length + 2 - (flat P pre).length = 2 by omega]
  unfold fill
  rw [show m - (pre ++ [x]).length = r by simp; omega, flat_append, flat_append, flat_cons, flat_nil]
  simp
theorem make_rows (w : World) (m : Nat) (hm : m ≤ 8796093022208) :
    (Instr.makeSlice 73 (.int .i64 0) (.int .i64 (m : Int))).run Try.prog w = .ok (.slice (some ⟨w.heap.size, 0, none⟩) 0 m) (w.alloc (.cells (flat P (fill m [])).toArray 78)) := by
  obtain ⟨i0, hi, hz0, hz1, hz2⟩ := info_parts info_row
  have hr := run_make (P := Try.prog) w 73 78 i0 _ Try.underlying73 hi hz0 .i64 .i64 0 (m : Int) (Int.le_refl _) (by omega) (by rw [hz2]; omega) (by omega)
  rw [hr, hz1]
  simp only [Int.toNat_zero, Int.toNat_natCast]
  rw [show Value.cells (.agg #[.int .i64 0, .slice none 0 0]) = #[Value.int .i64 0, Value.slice none 0 0] from rfl, made_rows (P := P)]
  simp [fill]
theorem append_row (w : World) (g m : Nat) (pre : List (Int × Int)) (x : Int × Int) (hg : Blk w g (flat P (fill m pre)).toArray 78) (hlt : pre.length < m) (a : Addr) (h0 : w.cell? (a.add 0) = some (.int .i64 x.1)) (h1 : w.cell? (a.add 1) = some (.slice (P.A x.2) (P.L x.2) (P.C x.2))) (ty : TypeId) :
    (Builtin.append_ #[73, 73] ty #[.slice (some ⟨g, 0, none⟩) pre.length m, .slice (some a) 1 1]).run Try.prog w = .ok (.slice (some ⟨g, 0, none⟩) (pre.length + 1) m) (w.setRow g (flat P (fill m (pre ++ [x]))).toArray) := by
  obtain ⟨i0, hi, hz0, hz1, hz2⟩ := info_parts info_row
  have hnews : ∀ j u, [Value.int .i64 x.1, Value.slice (P.A x.2) (P.L x.2) (P.C x.2)][j]? = some u → w.cell? (a.add j) = some u := fun j u hu => by
    match j with
    | 0 => simpa [h0] using hu
    | 1 => simpa [h1] using hu
    | j + 2 => simp at hu
  have hr := run_append_room (P := Try.prog) w 73 ty 78 i0 Try.underlying73 hi g pre.length m _ hg a 1 1 [.int .i64 x.1, .slice (P.A x.2) (P.L x.2) (P.C x.2)] (by rw [hz1]; rfl) hnews (by simp [Value.oneCell']) (by omega) (by rw [hz1]; simp [flat_length, fill_length m pre (by omega)]; omega)
  rw [hr, hz1, ← fill_flat m pre x hlt]
  rfl
end Go.Proofs.Ytcekipbjimbinaa
