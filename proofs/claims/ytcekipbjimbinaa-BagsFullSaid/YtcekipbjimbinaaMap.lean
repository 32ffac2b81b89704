/- The map of tags. -/
import Derived.Test.YtcekipbjimbinaaMsk
import Derived.Maps.Own
import Derived.Maps.OwnOps
import Derived.Maps.Views
import Derived.Maps.Keyed
import Derived.StringKeys
namespace Go.Proofs.Ytcekipbjimbinaa
open Go.RowKit Go.WideShapes Go.Maps

theorem strLaw : Keyed Try.prog 9 := string_keyed Try.underlying9
def keyL (s : ByteArray) : Lit := .string s.data.toList
theorem key_of {s : ByteArray} (h : s.size ≤ maxLen) : keyOf Try.prog 9 (.string s) = some (keyL s) := WideMaps.keyOf_string_mk Try.underlying9 h
theorem key_is (s : ByteArray) : WideAt.IsKeyLit (keyL s) := trivial
/-- What the map holds when the first i tags are in. -/
def Num (D : DataW Unit) (ss : List ByteArray) (i : Nat) : Prop :=
  Tidy D ∧ size D ≤ i ∧ (size D = i → ∀ j, j < i → ∀ z, D.atKey (keyL (ss.getD j ByteArray.empty)) z = .lit (.int .i64 (j : Int)))
theorem keyL_inj {s t : ByteArray} (h : keyL s = keyL t) : s = t := by
  unfold keyL at h
  injection h with h
  exact ByteArray.ext (Array.toList_inj.1 h)
/-- The keys are the tags so far; where these are distinct there are as many. -/
def Keys (D : DataW Unit) (ss : List ByteArray) (i : Nat) : Prop :=
  (∀ s, has D (keyL s) = true → ∃ j, j < i ∧ ss.getD j ByteArray.empty = s) ∧ ((∀ a b, a < b → b < i → ss.getD a ByteArray.empty ≠ ss.getD b ByteArray.empty) → size D = i)
theorem keys_zero (ss : List ByteArray) : Keys (.map []) ss 0 := ⟨fun s h => (by cases h), fun _ => rfl⟩
theorem keys_step {D : DataW Unit} {ss : List ByteArray} {i : Nat} (hT : Tidy D) (h : Keys D ss i) : Keys (D.put (keyL (ss.getD i ByteArray.empty)) (.lit (.int .i64 (i : Int)))) ss (i + 1) := by
  obtain ⟨h1, h2⟩ := h
  refine ⟨fun s hs => ?_, fun hd => ?_⟩
  · by_cases e : s = ss.getD i ByteArray.empty
    · exact ⟨i, by omega, e.symm⟩
    · rw [has_put_other (fun e2 => e (keyL_inj e2))] at hs
      obtain ⟨j, hj, e2⟩ := h1 s hs
      exact ⟨j, by omega, e2⟩
  · rw [size_put hT]
    have hn : has D (keyL (ss.getD i ByteArray.empty)) = false := by
      cases hh : has D (keyL (ss.getD i ByteArray.empty))
      · rfl
      · obtain ⟨j, hj, e2⟩ := h1 _ hh
        exact absurd e2 (hd j i hj (by omega))
    rw [hn, h2 (fun a b hab hb => hd a b hab (by omega))]
    rfl
theorem num_zero (ss : List ByteArray) : Num (.map []) ss 0 := ⟨tidy_empty, Nat.le_refl _, fun _ _ hj => absurd hj (Nat.not_lt_zero _)⟩
theorem num_step {D : DataW Unit} {ss : List ByteArray} {i : Nat} (h : Num D ss i) : Num (D.put (keyL (ss.getD i ByteArray.empty)) (.lit (.int .i64 (i : Int)))) ss (i + 1) := by
  obtain ⟨h1, h2, h3⟩ := h
  have hk := key_is (ss.getD i ByteArray.empty)
  refine ⟨h1.put hk _, ?_, fun hs j hj z => ?_⟩
  · rw [size_put h1]; split <;> omega
  · rw [size_put h1] at hs
    split at hs
    · omega
    · rename_i hh
      have hi := h3 (by omega)
      by_cases e : j = i
      · subst e
        exact atKey_put_same h1.isMap hk _ z
      · have hj2 := hi j (by omega)
        rw [atKey_put_other (fun e2 => ?_)]
        · exact hj2 z
        · have := has_true_of_atKey hj2
          rw [e2] at this
          exact hh this
/-- A look-up of a key that is there. -/
theorem look_run {w : World} {b n : Nat} {D : DataW Unit} (h : w.ownsMap Try.prog 9 (plainElem Try.prog 3) b n D) {s : ByteArray} (hs : s.size ≤ maxLen) {v : Int} (hat : ∀ z, D.atKey (keyL s) z = .lit (.int .i64 v)) (c : Bool) :
    (Instr.lookup 49 (.map (some b)) (.string s) c).run Try.prog w = .ok (if c then .tuple #[.int .i64 v, .bool true] else .int .i64 v) w := by
  obtain ⟨es, clock, hb, F, _, rfl⟩ := h
  rcases Maps.fit_look c strLaw Try.underlying49 (show (zeroValue 3).run Try.prog w = .ok (.int .i64 0) w by kernel_rfl) hb F (key_of hs) with ⟨_, _, h0⟩ | ⟨e0, y, _, _, hrun, hR, hat2, _⟩
  · have e1 := (h0 .nil).symm.trans (hat .nil)
    cases e1
  · obtain ⟨a, ha, hy, _⟩ := plainElem_int_inv Try.underlying3 hR
    have e1 := (hat2 .nil).symm.trans (hat .nil)
    rw [hy] at e1
    cases e1
    rw [ha] at hrun
    exact hrun
theorem wpList_look {P : Program} (w : World) {ops : Array Oper} {rest : List Oper} {o : Oper} {a : Act} {Q : Exit → Act → World → Prop}
    (hg : o.guard = none) (m x : Operand) (t : TypeId) (c : Bool) (hop : o.op = Op.lookup t m x c) (mv key r : Value) (hm : a.eval m = mv) (hx : a.eval x = key)
    (hrun : (Instr.lookup t mv key c).run P w = .ok r w) (hK : wpList P ops Q rest (a.put o.dst r) w) : wpList P ops Q (o :: rest) a w := by
  refine wpList_plain hg fun K' hK' => ?_
  unfold Oper.wp
  simp [execOp, hop, hm, hx, hrun, Result.andThen]
  exact hK' _ _ hK
theorem map_len {w : World} {b n : Nat} {D : DataW Unit} (h : w.ownsMap Try.prog 9 (plainElem Try.prog 3) b n D) : ∃ es clock, w.heap[b]? = some (.map es clock) ∧ es.size = size D := by
  obtain ⟨es, clock, hb, F, _, rfl⟩ := h
  exact ⟨es, clock, hb, by show _ = ((es.toList.map _).foldr DataW.insert []).length; rw [length_sorted]; simp⟩
end Go.Proofs.Ytcekipbjimbinaa
