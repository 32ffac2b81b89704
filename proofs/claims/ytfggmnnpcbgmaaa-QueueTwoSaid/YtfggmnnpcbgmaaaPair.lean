/- A queue beside two rows of integers: the numbers and the things that are in. -/
import Derived.Test.YtfggmnnpcbgmaaaSteps
import Derived.Test.YtfggmnnpcbgmaaaAwake
import Derived.Maps.AppendAt
namespace Go.Proofs.Ytfggmnnpcbgmaaa
open Go.RowKit Go.Shelf

def intsI (l : List Int) : List Value := l.map (Value.int .i64)
theorem intsI_length (l : List Int) : (intsI l).length = l.length := by simp [intsI]
theorem info_int : (Try.prog.info? 3).map (fun i => (i.zero, i.size, i.bytes)) = some (some (.int .i64 0), 1, 8) := by kernel_rfl
/-- 'append' whose run is known. -/
theorem wpList_append_known {P : Program} (w : World) {ops : Array Oper} {rest : List Oper} {o : Oper} {a : Act} {Q : Exit → Act → World → Prop}
    (hg : o.guard = none) (s x : Operand) (t : TypeId) (hop : o.op = Op.call { callee := Callee.builtin Builtin.append, args := #[s, x], argTypes := #[t, t] }) (v u : Value) (hs : a.eval s = v) (hx : a.eval x = u)
    (R : Value → World → Prop) (hrun : ∃ v' w', (Builtin.append_ #[t, t] o.type #[v, u]).run P w = .ok v' w' ∧ R v' w') (hK : ∀ v' w', R v' w' → wpList P ops Q rest (a.put o.dst v') w') :
    wpList P ops Q (o :: rest) a w := by
  refine wpList_plain hg fun K hK' => ?_
  obtain ⟨v', w', hrun, r⟩ := hrun
  unfold Oper.wp execOp
  simp only [hop, resolve, invoke, builtin, Sem.run_bind, Sem.run_pure, Result.andThen_ok, List.map_toArray, List.map_cons, List.map_nil, hs, hx, hrun]
  exact hK' _ _ (hK v' w' r)
/-- 'append' of integers onto an own row of integers. -/
theorem app_ints (w : World) (base : Nat) (v : Value) (n : Nat) (l : List Int) (hown : w.ownsRow base 3 1 v n (intsI l)) (a : Addr) (m c : Nat) (l2 : List Int) (hl2 : l2.length = m)
    (hc : ∀ j, j < m → w.cell? (a.add j) = some (.int .i64 (l2.getD j 0))) (hb : (n + m) * 8 ≤ 140737488355328) (hbase : base ≤ w.heap.size) (ty : TypeId) :
    ∃ v' w', (Builtin.append_ #[35, 35] ty #[v, .slice (some a) m c]).run Try.prog w = .ok v' w' ∧ w'.ownsRow base 3 1 v' (n + m) (intsI (l ++ l2)) ∧ w.grownBy w' v.ownBlock ∧ (v'.ownBlock = v.ownBlock ∨ v'.ownBlock = some w.heap.size) := by
  obtain ⟨i0, hi, hz0, hz1, hz2⟩ := info_parts info_int
  have hnews : ∀ j u, (intsI l2)[j]? = some u → w.cell? (a.add j) = some u := fun j u hu => by
    have hj : j < l2.length := by
      rcases Nat.lt_or_ge j l2.length with h1 | h1
      · exact h1
      · rw [List.getElem?_eq_none (by simpa [intsI] using h1)] at hu; cases hu
    rw [hc j (by omega)]
    simp [intsI, hj] at hu
    rw [← hu]; simp [hj]
  obtain ⟨v', w', hr, ho, hg, _, hat⟩ := run_append_own_at (P := Try.prog) w base 35 ty 3 i0 (.int .i64 0) 1 8 Try.underlying35 hi hz0 hz1 hz2 rfl (by decide) v n (intsI l) hown a m c (intsI l2) (by simp [intsI, hl2]) hnews (fun u hu => by
    obtain ⟨x, _, rfl⟩ := List.mem_map.1 hu
    rfl) (by unfold maxLen; omega) hb hbase
  exact ⟨v', w', hr, by simpa [intsI] using ho, hg, hat⟩
/-- A cell of an own row of integers. -/
theorem own_cell {w : World} {base : Nat} {g L cap n : Nat} {l : List Int} (h : w.ownsRow base 3 1 (.slice (some ⟨g, 0, none⟩) L cap) n (intsI l)) (i : Nat) (hi : i < l.length) : w.cell? ⟨g, i, none⟩ = some (.int .i64 (l.getD i 0)) := by
  have := h.cells (g := g) rfl i (.int .i64 (l.getD i 0)) (by simp [intsI, hi])
  rw [show (⟨g, 0, none⟩ : Addr).add i = ⟨g, 0 + i, none⟩ from Go.WideShapes.add_plain _ _ _] at this
  simpa using this
theorem own_some {w : World} {base : Nat} {v : Value} {l : List Int} (h : w.ownsRow base 3 1 v l.length (intsI l)) (hp : 0 < l.length) : ∃ g cap, v = .slice (some ⟨g, 0, none⟩) l.length cap ∧ l.length ≤ cap ∧ cap ≤ maxLen := by
  rcases h.2 with ⟨_, h0⟩ | ⟨g, cap, cur, e, _, _, h1, h2, _⟩
  · omega
  · exact ⟨g, cap, e, h1, h2⟩
theorem own_slice {w : World} {base : Nat} {v : Value} {n : Nat} {xs : List Value} (h : w.ownsRow base 3 1 v n xs) : ∃ a cap, v = .slice a n cap ∧ n ≤ cap := by
  rcases h.2 with ⟨e, h0⟩ | ⟨g, cap, cur, e, _, _, h1, _⟩
  · exact ⟨none, 0, by rw [e, h0], by omega⟩
  · exact ⟨_, cap, e, h1⟩

/-- The law's state: a queue, and two rows of integers. -/
structure St (B : Nat) (w0 w : World) (p : Nat) (its : List (Int × Int)) (most last : Int) (vi : Value) (li : List Int) (vt : Value) (lt : List Int) : Prop where
  has : Has B w p its most last
  ids : w.ownsRow B 3 1 vi li.length (intsI li)
  things : w.ownsRow B 3 1 vt lt.length (intsI lt)
  ne : vi.ownBlock = none ∨ vi.ownBlock ≠ vt.ownBlock
  low : Below w0.heap.size w0 w
  base : w0.heap.size ≤ B
section
variable {B : Nat} {w0 w : World} {p : Nat} {its : List (Int × Int)} {most last : Int} {vi : Value} {li : List Int} {vt : Value} {lt : List Int}
theorem St.move {w' : World} {its' : List (Int × Int)} {last' : Int} (h : St B w0 w p its most last vi li vt lt) (hk : Kp B w w') (hh : Has B w' p its' most last') : St B w0 w' p its' most last' vi li vt lt :=
  ⟨hh, hk.own h.ids, hk.own h.things, h.ne, h.low.trans (hk.low.mono h.base), h.base⟩
theorem St.drewN (h : St B w0 w p its most last vi li vt lt) (q : Nat) : St B w0 (w.drewN q) p its most last vi li vt lt := h.move (Kp.drewN _ _ _) (h.has.drewN q)
theorem St.size (h : St B w0 w p its most last vi li vt lt) : B ≤ w.heap.size := by have := h.has.lt; omega
theorem St.below {w' : World} (h : St B w0 w p its most last vi li vt lt) (hB : Below w.heap.size w w') : St B w0 w' p its most last vi li vt lt :=
  ⟨h.has.below hB, own_belowE h.ids hB, own_belowE h.things hB, h.ne, h.low.trans (hB.mono (Nat.le_trans h.base h.size)), h.base⟩
theorem own_is {v : Value} {n : Nat} {xs : List Value} (h : w.ownsRow B 3 1 v n xs) : ∀ k, v.ownBlock = some k → ∃ cur, w.heap[k]? = some (Obj.cells cur 3 (0, 0)) := by
  intro k hk
  rcases h.2 with ⟨e, _⟩ | ⟨g, cap, cur, e, _, hg, _⟩
  · rw [e] at hk; simp [Value.ownBlock] at hk
  · rw [e] at hk
    have : g = k := by simpa [Value.ownBlock] using hk
    exact ⟨cur, this ▸ hg⟩
theorem keep_box {w w' : World} {o : Obj} {row : Option Nat} (hg : (w.alloc o).grownBy w' row) (hr : ∀ k, row = some k → ∃ cur, (w.alloc o).heap[k]? = some (Obj.cells cur 3 (0, 0))) (b : Nat) (cs : Array Value) (t : TypeId) (ht : t ≠ 3) (hb : Blk w b cs t) : Blk w' b cs t := by
  refine (hb.alloc o).kept hg (fun e => ?_)
  obtain ⟨cur, e2⟩ := hr b e.symm
  have := (hb.alloc o).eq
  rw [e2] at this
  cases this
  exact ht rfl
theorem St.appI (h : St B w0 w p its most last vi li vt lt) (x : Int) (hl : (li.length + 1) * 8 ≤ 140737488355328) (ty : TypeId) :
    ∃ v' w', (Builtin.append_ #[35, 35] ty #[vi, .slice (some ⟨w.heap.size, 0, none⟩) 1 1]).run Try.prog (w.alloc (.cells #[.int .i64 x] 3)) = .ok v' w' ∧ St B w0 w' p its most last v' (li ++ [x]) vt lt ∧ (∀ b cs t, t ≠ 3 → Blk w b cs t → Blk w' b cs t) := by
  have h' := h.below ((Below.refl _ w).alloc (Nat.le_refl _) (.cells #[.int .i64 x] 3))
  obtain ⟨v', w', hr, ho, hg, hat⟩ := app_ints _ B vi li.length li h'.ids ⟨w.heap.size, 0, none⟩ 1 1 [x] rfl (fun j hj => by
    obtain rfl : j = 0 := by omega
    rw [Go.WideShapes.add_plain]
    exact (Blk.new w #[.int .i64 x] 3).cell rfl) hl h'.size ty
  have hlt := h.things.lt
  refine ⟨v', w', hr, ⟨h'.has.grown hg (own_is h'.ids), by simpa using ho, h'.things.kept hg ?_, ?_, h'.low.grown hg (Nat.le_trans h.base h'.size) (fun k e => Nat.le_trans h.base (h'.ids.lt k e).1), h.base⟩, keep_box hg (own_is h'.ids)⟩
  · rcases h.ne with e | e
    · by_cases e2 : vt.ownBlock = none
      · exact .inl e2
      · exact .inr (fun e3 => e2 (e3.trans e))
    · exact .inr (fun e3 => e e3.symm)
  · rcases hat with e | e
    · rw [e]; exact h.ne
    · refine .inr (fun e3 => ?_)
      rw [e] at e3
      have := (h.things.lt _ e3.symm).2
      simp at this; omega
theorem St.appT (h : St B w0 w p its most last vi li vt lt) (x : Int) (hl : (lt.length + 1) * 8 ≤ 140737488355328) (ty : TypeId) :
    ∃ v' w', (Builtin.append_ #[35, 35] ty #[vt, .slice (some ⟨w.heap.size, 0, none⟩) 1 1]).run Try.prog (w.alloc (.cells #[.int .i64 x] 3)) = .ok v' w' ∧ St B w0 w' p its most last vi li v' (lt ++ [x]) ∧ (∀ b cs t, t ≠ 3 → Blk w b cs t → Blk w' b cs t) := by
  have h' := h.below ((Below.refl _ w).alloc (Nat.le_refl _) (.cells #[.int .i64 x] 3))
  obtain ⟨v', w', hr, ho, hg, hat⟩ := app_ints _ B vt lt.length lt h'.things ⟨w.heap.size, 0, none⟩ 1 1 [x] rfl (fun j hj => by
    obtain rfl : j = 0 := by omega
    rw [Go.WideShapes.add_plain]
    exact (Blk.new w #[.int .i64 x] 3).cell rfl) hl h'.size ty
  refine ⟨v', w', hr, ⟨h'.has.grown hg (own_is h'.things), h'.ids.kept hg h.ne, by simpa using ho, ?_, h'.low.grown hg (Nat.le_trans h.base h'.size) (fun k e => Nat.le_trans h.base (h'.things.lt k e).1), h.base⟩, keep_box hg (own_is h'.things)⟩
  rcases hat with e | e
  · rw [e]; exact h.ne
  · by_cases e2 : vi.ownBlock = none
    · exact .inl e2
    · refine .inr (fun e3 => ?_)
      rw [e] at e3
      have := (h.ids.lt _ e3).2
      simp at this; omega
end
/-- 'append(nil, row[:k]...)', then 'append(.., row[k+1:]...)': the row without one. -/
theorem cut_one {w : World} {B : Nat} {g L cap : Nat} {l : List Int} (h : w.ownsRow B 3 1 (.slice (some ⟨g, 0, none⟩) L cap) l.length (intsI l)) (hl : L = l.length) (k : Nat) (hk : k < l.length) (hb : l.length * 8 ≤ 140737488355328) (c : Nat) (ty : TypeId) :
    ∃ v1 w1, (Builtin.append_ #[35, 35] ty #[.slice none 0 0, .slice (some ⟨g, 0, none⟩) k c]).run Try.prog w = .ok v1 w1 ∧ w1.ownsRow w.heap.size 3 1 v1 k (intsI (l.take k)) ∧ Below w.heap.size w w1 := by
  obtain ⟨v1, w1, hr, ho, hg, _⟩ := app_ints w w.heap.size (.slice none 0 0) 0 [] (World.ownsRow_nil _ _ _ _) ⟨g, 0, none⟩ k c (l.take k) (by simp; omega) (fun j hj => by
    rw [Go.WideShapes.add_plain, Nat.zero_add, own_cell h j (by omega)]
    simp [List.getD, hj]) (by omega) (Nat.le_refl _) ty
  refine ⟨v1, w1, hr, by simpa using ho, (Below.refl _ w).grown hg (Nat.le_refl _) (fun k e => ?_)⟩
  simp [Value.ownBlock] at e
theorem cut_two {w w1 : World} {B : Nat} {g L cap : Nat} {l : List Int} (h : w.ownsRow B 3 1 (.slice (some ⟨g, 0, none⟩) L cap) l.length (intsI l)) (k : Nat) (hk : k < l.length) (hb : l.length * 8 ≤ 140737488355328) {v1 : Value}
    (h1 : w1.ownsRow w.heap.size 3 1 v1 k (intsI (l.take k))) (hB : Below w.heap.size w w1) (ty : TypeId) (a : Addr) (ha : k + 1 < l.length → a = ⟨g, k + 1, none⟩) (c : Nat) :
    ∃ v2 w2, (Builtin.append_ #[35, 35] ty #[v1, .slice (some a) (l.length - (k + 1)) c]).run Try.prog w1 = .ok v2 w2 ∧ w2.ownsRow w.heap.size 3 1 v2 (l.length - 1) (intsI (l.eraseIdx k)) ∧ Below w.heap.size w w2 := by
  have h2 := own_belowE h hB
  obtain ⟨v2, w2, hr, ho, hg, _⟩ := app_ints w1 w.heap.size v1 k (l.take k) h1 a (l.length - (k + 1)) c (l.drop (k + 1)) (by simp) (fun j hj => by
    rw [ha (by omega), Go.WideShapes.add_plain, own_cell h2 (k + 1 + j) (by omega)]
    simp [List.getD]) (by omega) hB.size ty
  refine ⟨v2, w2, hr, ?_, hB.trans ((Below.refl _ w1).grown hg hB.size (fun k e => (h1.lt k e).1))⟩
  rw [List.eraseIdx_eq_take_drop_succ, show l.length - 1 = k + (l.length - (k + 1)) by omega]
  exact ho
theorem own_base {w : World} {B B' : Nat} {v : Value} {n : Nat} {xs : List Value} (h : w.ownsRow B 3 1 v n xs) (hb : B' ≤ B) : w.ownsRow B' 3 1 v n xs := by
  refine ⟨h.1, ?_⟩
  rcases h.2 with h0 | ⟨g, cap, cur, h1, h2, h3⟩
  · exact .inl h0
  · exact .inr ⟨g, cap, cur, h1, Nat.le_trans hb h2, h3⟩
theorem map_erase {α β : Type} (f : α → β) (l : List α) (k : Nat) : (l.map f).eraseIdx k = (l.eraseIdx k).map f := by
  simp [List.eraseIdx_eq_take_drop_succ, List.map_take, List.map_drop]
theorem St.cut {B : Nat} {w0 w w6 w8 : World} {p : Nat} {its : List (Int × Int)} {most last : Int} {vi : Value} {li : List Int} {vt : Value} {lt : List Int} (h : St B w0 w p its most last vi li vt lt)
    {v2 v4 : Value} {li' lt' : List Int} (h2 : w6.ownsRow w.heap.size 3 1 v2 li'.length (intsI li')) (hB6 : Below w.heap.size w w6) (h4 : w8.ownsRow w6.heap.size 3 1 v4 lt'.length (intsI lt')) (hB8 : Below w6.heap.size w6 w8) :
    St B w0 w8 p its most last v2 li' v4 lt' := by
  have hs := h.size
  have hs6 := hB6.size
  have hB := hB6.trans (hB8.mono hs6)
  refine ⟨h.has.below hB, own_base (own_belowE h2 hB8) hs, own_base h4 (by omega), ?_, h.low.trans (hB.mono (Nat.le_trans h.base hs)), h.base⟩
  by_cases e : v2.ownBlock = none
  · exact .inl e
  · refine .inr (fun e2 => ?_)
    obtain ⟨k, hk⟩ : ∃ k, v2.ownBlock = some k := by
      cases hv : v2.ownBlock with
      | none => exact absurd hv e
      | some k => exact ⟨k, rfl⟩
    have h5 := (h2.lt k hk).2
    have h6 := (h4.lt k (e2 ▸ hk)).1
    omega
end Go.Proofs.Ytfggmnnpcbgmaaa
