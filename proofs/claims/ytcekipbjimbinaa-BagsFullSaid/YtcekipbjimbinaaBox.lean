/- A mailbox: its block, its tags, its map, its queues. -/
import Derived.Test.YtcekipbjimbinaaHas
import Derived.Test.YtcekipbjimbinaaMap
namespace Go.Proofs.Ytcekipbjimbinaa
open Go.RowKit Go.Shelf Go.WideShapes Go.Maps
variable {P : Pl}

/-- One queue's data. -/
structure Qd where
  p : Nat
  rv : Value
  rs : List (Int × Int)
  fr : Nat
  n : Nat
  last : Int
def Qd.S (d : Qd) (k : Nat) : Prop := k = d.p ∨ d.rv.ownBlock = some k
structure HasD (P : Pl) (B : Nat) (w : World) (d : Qd) (its : List (Int × Int)) : Prop where
  que : Que P B w d.p d.rv d.rs d.fr d.n 12 d.last
  items : items d.rs d.fr d.n = its
  ring : Ring d.rs.length 12
  rise : Rise (idAt its) its.length
  most : ∀ i, i < its.length → idAt its i ≤ d.last
section
variable {B : Nat} {w : World} {d : Qd} {its : List (Int × Int)}
theorem HasD.has (h : HasD P B w d its) : Has P B w d.p its 12 d.last := ⟨_, _, _, _, h.que, h.items, h.ring, h.rise, h.most⟩
theorem HasD.len (h : HasD P B w d its) : its.length = d.n := by rw [← h.items, items_length]
theorem HasD.below {w' : World} (h : HasD P B w d its) (hB : Below w.heap.size w w') : HasD P B w' d its := ⟨h.que.below hB, h.items, h.ring, h.rise, h.most⟩
theorem HasD.types (h : HasD P B w d its) : ∀ k, d.S k → ∃ cur t, w.heap[k]? = some (Obj.cells cur t (0, 0)) ∧ (t = 75 ∨ t = 78) ∧ B ≤ k := by
  rintro k (rfl | e)
  · exact ⟨_, _, h.que.blk, .inl rfl, h.que.lo⟩
  · rcases h.que.own.2 with ⟨e3, _⟩ | ⟨g, c, cur, e3, hb, hg, _⟩
    · rw [e3] at e; simp [Value.ownBlock] at e
    · rw [e3] at e
      have e4 : g = k := by simpa [Value.ownBlock] using e
      exact ⟨cur, _, e4 ▸ hg, .inr rfl, e4 ▸ hb⟩
/-- A block that is neither a queue nor a ring is not of a queue's. -/
theorem HasD.not_S (h : HasD P B w d its) {k : Nat} {o : Obj} (ho : w.heap[k]? = some o) (h1 : ∀ cur, o ≠ .cells cur 75 (0, 0)) (h2 : ∀ cur, o ≠ .cells cur 78 (0, 0)) : ¬ d.S k := by
  intro hs
  obtain ⟨cur, t, e, ht, _⟩ := h.types k hs
  rw [ho] at e
  cases e
  rcases ht with rfl | rfl
  · exact h1 _ rfl
  · exact h2 _ rfl
/-- Another queue's step leaves this one. -/
theorem HasD.other {w' : World} {S : Nat → Prop} (h : HasD P B w d its) (ho : Only S w w') (hS : ∀ k, d.S k → ¬ S k) : HasD P B w' d its := by
  have hp := (ho.same d.p h.que.blk.lt (hS _ (.inl rfl)))
  refine ⟨⟨hp.trans h.que.blk, ⟨h.que.own.1, ?_⟩, h.que.lo, h.que.fits, h.que.small, h.que.most1⟩, h.items, h.ring, h.rise, h.most⟩
  rcases h.que.own.2 with h0 | ⟨g, c, cur, e3, hb, hg, h4⟩
  · exact .inl h0
  · refine .inr ⟨g, c, cur, e3, hb, (ho.same g (Array.getElem?_eq_some_iff.1 hg).1 (hS _ (.inr (by rw [e3]; rfl)))).trans hg, h4⟩
theorem qd_put (h : HasD P B w d its) (id x : Int) (hid : d.last < id) (hlt : its.length < 12) : Calls Try.prog 15 #[.pointer (some ⟨d.p, 0, none⟩), .int .i64 id, .slice (P.A x) (P.L x) (P.C x)] w fun e w' =>
    e = .returned (.int .i64 0) ∧ ∃ d' : Qd, HasD P B w' d' (its ++ [(id, x)]) ∧ d'.p = d.p ∧ d'.last = id ∧ (∀ k, d'.rv.ownBlock = some k → d.rv.ownBlock = some k ∨ w.heap.size ≤ k) ∧ Only d.S w w' := by
  obtain ⟨hq, hi, hg, hs, hl⟩ := h
  subst hi
  have hn : (items d.rs d.fr d.n).length = d.n := items_length _ _ _
  have h3 : (d.n : Int) < 12 := by omega
  have hR := rise_snoc (x := x) hs hl hid
  by_cases h4 : d.n < d.rs.length
  · refine (put_room hq id x hid h4 h3).mono ?_
    rintro e w' ⟨rfl, rs', hq', hi, hle, ho⟩
    exact ⟨rfl, ⟨d.p, d.rv, rs', d.fr, d.n + 1, id⟩, ⟨hq', hi, by show Ring rs'.length 12; rw [hle]; exact hg, hR.1, hR.2⟩, rfl, rfl, fun k e => .inl e, ho⟩
  · have h5 : d.n = d.rs.length := by
      rcases hq.fits with ⟨_, h6⟩ | ⟨_, h6, h7⟩
      · omega
      · rw [h6, h7]; rfl
    refine (put_grow hq id x hid h5 h3 (by omega)).mono ?_
    rintro e w' ⟨rfl, rv', rs', hq', hi, hle, hfr, ho⟩
    refine ⟨rfl, ⟨d.p, rv', rs', 0, d.n + 1, id⟩, ⟨hq', hi, (h5 ▸ hg : Ring d.n 12).more h3 hle.1, hR.1, hR.2⟩, rfl, rfl, fun k e => .inr (hfr k e), ⟨ho.low, fun k hk hS => ho.same k hk (fun e => hS (.inl e))⟩⟩
theorem qd_full (h : HasD P B w d its) (id x : Int) (hid : d.last < id) (hlt : its.length = 12) : Calls Try.prog 15 #[.pointer (some ⟨d.p, 0, none⟩), .int .i64 id, .slice (P.A x) (P.L x) (P.C x)] w fun e w' =>
    e = .returned (.int .i64 120) ∧ ∃ q, w' = w.drewN q := by
  obtain ⟨hq, hi, hg, hs, hl⟩ := h
  subst hi
  have hn : (items d.rs d.fr d.n).length = d.n := items_length _ _ _
  have e : d.n = 12 := by omega
  rw [e] at hq
  exact put_full hq id x hid
theorem qd_take (h : HasD P B w d its) (j : Nat) (hj : j < its.length) : Calls Try.prog 23 #[.pointer (some ⟨d.p, 0, none⟩), .int .i64 (idAt its j)] w fun e w' =>
    e = .returned (.tuple #[.slice (P.A (its.getD j (0, 0)).2) (P.L (its.getD j (0, 0)).2) (P.C (its.getD j (0, 0)).2), .int .i64 0]) ∧ ∃ d' : Qd, HasD P B w' d' (its.eraseIdx j) ∧ d'.p = d.p ∧ d'.last = d.last ∧ d'.rv = d.rv ∧ Only d.S w w' := by
  obtain ⟨hq, hi, hg, hs, hl⟩ := h
  subst hi
  have hR := rise_erase hs hl j hj
  rw [items_length] at hj hs
  refine (take_any hq hs j hj).mono ?_
  rintro e w' ⟨rfl, rs', fr', hq', hi, hle, ho⟩
  exact ⟨rfl, ⟨d.p, d.rv, rs', fr', d.n - 1, d.last⟩, ⟨hq', hi, by show Ring rs'.length 12; rw [hle]; exact hg, hR.1, hR.2⟩, rfl, rfl, rfl, ho⟩
end
def upd {α : Type} (f : Nat → α) (i : Nat) (x : α) : Nat → α := fun j => if j = i then x else f j
theorem upd_same {α : Type} (f : Nat → α) (i : Nat) (x : α) : upd f i x i = x := if_pos rfl
theorem upd_other {α : Type} (f : Nat → α) {i j : Nat} (x : α) (h : j ≠ i) : upd f i x j = f j := if_neg h
def ptrs (n : Nat) (qs : Nat → Qd) : List Value := (List.range n).map fun i => .pointer (some ⟨(qs i).p, 0, none⟩)
def strsV (ss : List ByteArray) : List Value := ss.map Value.string
/-- A mailbox. -/
structure Box (P : Pl) (B : Nat) (w : World) (b : Nat) (tv : Value) (mb : Nat) (qv : Value) (D : DataW Unit) (ss : List ByteArray) (qs : Nat → Qd) (its : Nat → List (Int × Int)) (full : Nat) (last lm : Int) : Prop where
  blk : Blk w b #[tv, .map (some mb), qv, .int .u64 full, .int .i64 last] 52
  lo : B ≤ b
  tags : w.ownsRow B 9 1 tv ss.length (strsV ss)
  map : w.ownsMap Try.prog 9 (plainElem Try.prog 3) mb 1000 D
  nums : ∀ j, j < ss.length → ∀ z, D.atKey (keyL (ss.getD j ByteArray.empty)) z = .lit (.int .i64 (j : Int))
  sizes : ∀ s ∈ ss, s.size ≤ maxLen
  few : ss.length ≤ 64
  row : w.ownsRow B 53 1 qv ss.length (ptrs ss.length qs)
  que : ∀ i, i < ss.length → HasD P B w (qs i) (its i)
  apart : ∀ i j, i < ss.length → j < ss.length → i ≠ j → ∀ k, (qs i).S k → ¬ (qs j).S k
  lasts : ∀ i, i < ss.length → (qs i).last ≤ lm
  fullLt : full < 18446744073709551616
section
variable {B : Nat} {w : World} {b : Nat} {tv : Value} {mb : Nat} {qv : Value} {D : DataW Unit} {ss : List ByteArray} {qs : Nat → Qd} {its : Nat → List (Int × Int)} {full : Nat} {last lm : Int}
theorem own_same {w' : World} {t : TypeId} {v : Value} {n : Nat} {xs : List Value} (h : w.ownsRow B t 1 v n xs) (hk : ∀ (k : Nat) (cur : Array Value), w.heap[k]? = some (Obj.cells cur t (0, 0)) → w'.heap[k]? = w.heap[k]?) : w'.ownsRow B t 1 v n xs := by
  refine ⟨h.1, ?_⟩
  rcases h.2 with h0 | ⟨g, cap, cur, h1, h2, h3, h4⟩
  · exact .inl h0
  · exact .inr ⟨g, cap, cur, h1, h2, (hk g cur h3).trans h3, h4⟩
theorem Box.below {w' : World} (h : Box P B w b tv mb qv D ss qs its full last lm) (hB : Below w.heap.size w w') : Box P B w' b tv mb qv D ss qs its full last lm := by
  refine ⟨h.blk.below hB h.blk.lt, h.lo, own_belowE h.tags hB, ?_, h.nums, h.sizes, h.few, own_belowE h.row hB, fun i hi => (h.que i hi).below hB, h.apart, h.lasts, h.fullLt⟩
  obtain ⟨es, cl, hm, hr⟩ := h.map
  exact ⟨es, cl, (hB.block mb (Array.getElem?_eq_some_iff.1 hm).1).trans hm, hr⟩
theorem Box.drewN (h : Box P B w b tv mb qv D ss qs its full last lm) (q : Nat) : Box P B (w.drewN q) b tv mb qv D ss qs its full last lm := h.below (below_drawn (Below.refl _ _) q)
/-- A step of one queue. -/
theorem Box.step {w' : World} (h : Box P B w b tv mb qv D ss qs its full last lm) {i : Nat} (hi : i < ss.length) {d' : Qd} {it' : List (Int × Int)} {lm' : Int} (hd : HasD P B w' d' it') (hp : d'.p = (qs i).p) (hl : d'.last ≤ lm')
    (hr : ∀ k, d'.rv.ownBlock = some k → (qs i).rv.ownBlock = some k ∨ w.heap.size ≤ k) (ho : Only (qs i).S w w') (hll : lm ≤ lm') : Box P B w' b tv mb qv D ss (upd qs i d') (upd its i it') full last lm' := by
  have hq := h.que i hi
  have keep : ∀ (k : Nat) (o : Obj), w.heap[k]? = some o → (∀ cur, o ≠ .cells cur 75 (0, 0)) → (∀ cur, o ≠ .cells cur 78 (0, 0)) → w'.heap[k]? = w.heap[k]? := fun k o e h1 h2 => ho.same k (Array.getElem?_eq_some_iff.1 e).1 (hq.not_S e h1 h2)
  have hblk : Blk w' b #[tv, .map (some mb), qv, .int .u64 full, .int .i64 last] 52 :=
    (keep b _ h.blk.eq (fun cur e => by cases e) (fun cur e => by cases e)).trans h.blk.eq
  have hlow : ∀ j, j < ss.length → j ≠ i → HasD P B w' (qs j) (its j) := fun j hj hne => (h.que j hj).other ho (fun k hk => h.apart j i hj hi hne k hk)
  refine ⟨hblk, h.lo, own_same h.tags (fun k cur e => keep k _ e (fun cur e => by cases e) (fun cur e => by cases e)), ?_, h.nums, h.sizes, h.few, ?_, fun j hj => ?_, fun a c ha hc hne => ?_, fun j hj => ?_, h.fullLt⟩
  · obtain ⟨es, cl, hm, hrr⟩ := h.map
    exact ⟨es, cl, (keep mb _ hm (fun cur e => by cases e) (fun cur e => by cases e)).trans hm, hrr⟩
  · have e : ptrs ss.length (upd qs i d') = ptrs ss.length qs := by
      unfold ptrs
      refine List.map_congr_left fun j _ => ?_
      by_cases e : j = i
      · subst e; rw [upd_same, hp]
      · rw [upd_other _ _ e]
    rw [e]
    exact own_same h.row (fun k cur e => keep k _ e (fun cur e => by cases e) (fun cur e => by cases e))
  · by_cases e : j = i
    · subst e; rw [upd_same, upd_same]; exact hd
    · rw [upd_other _ _ e, upd_other _ _ e]; exact hlow j hj e
  · have old : ∀ k, d'.S k → (qs i).S k ∨ w.heap.size ≤ k := by
      rintro k (e | e)
      · exact .inl (.inl (e.trans hp))
      · exact (hr k e).imp (fun e => .inr e) (fun e => e)
    have lt : ∀ j, j < ss.length → ∀ k, (qs j).S k → k < w.heap.size := fun j hj k hk => by
      obtain ⟨cur, t, e, _⟩ := (h.que j hj).types k hk
      exact (Array.getElem?_eq_some_iff.1 e).1
    intro k hk hk2
    by_cases e : a = i
    · subst e
      rw [upd_same] at hk
      rw [upd_other _ _ (fun e => hne e.symm)] at hk2
      rcases old k hk with h1 | h1
      · exact h.apart a c ha hc hne k h1 hk2
      · have := lt c hc k hk2; omega
    · rw [upd_other _ _ e] at hk
      by_cases e2 : c = i
      · subst e2
        rw [upd_same] at hk2
        rcases old k hk2 with h1 | h1
        · exact h.apart a c ha hc hne k hk h1
        · have := lt a ha k hk; omega
      · rw [upd_other _ _ e2] at hk2
        exact h.apart a c ha hc hne k hk hk2
  · by_cases e : j = i
    · subst e; rw [upd_same]; exact hl
    · rw [upd_other _ _ e]; exact Int.le_trans (h.lasts j hj) hll
theorem Box.alone {w' : World} (h : Box P B w b tv mb qv D ss qs its full last lm) (ho : Only (fun k => k = b) w w') {full' : Nat} {last' : Int} (hf : full' < 18446744073709551616) (hb : Blk w' b #[tv, .map (some mb), qv, .int .u64 full', .int .i64 last'] 52) : Box P B w' b tv mb qv D ss qs its full' last' lm := by
  have keep : ∀ (k : Nat) (o : Obj), w.heap[k]? = some o → (∀ cur, o ≠ .cells cur 52 (0, 0)) → w'.heap[k]? = w.heap[k]? := fun k o e h1 => ho.same k (Array.getElem?_eq_some_iff.1 e).1 (fun e2 => by
    subst e2
    rw [h.blk.eq] at e
    cases e
    exact h1 _ rfl)
  refine ⟨hb, h.lo, own_same h.tags (fun k cur e => keep k _ e (fun cur e => by cases e)), ?_, h.nums, h.sizes, h.few, own_same h.row (fun k cur e => keep k _ e (fun cur e => by cases e)), fun j hj => (h.que j hj).other ho (fun k hk e => ?_), h.apart, h.lasts, hf⟩
  · obtain ⟨es, cl, hm, hrr⟩ := h.map
    exact ⟨es, cl, (keep mb _ hm (fun cur e => by cases e)).trans hm, hrr⟩
  · subst e
    exact (h.que j hj).not_S h.blk.eq (fun cur e => by cases e) (fun cur e => by cases e) hk
theorem Box.setFull (h : Box P B w b tv mb qv D ss qs its full last lm) (f : Nat) (hf : f < 18446744073709551616) : Box P B (w.setCell ⟨b, 3, none⟩ (.int .u64 f)) b tv mb qv D ss qs its f last lm :=
  h.alone (Only.setCell w ⟨b, 3, none⟩ _ rfl) hf (h.blk.set 3 _)
theorem Box.setLast (h : Box P B w b tv mb qv D ss qs its full last lm) (x : Int) : Box P B (w.setCell ⟨b, 4, none⟩ (.int .i64 x)) b tv mb qv D ss qs its full x lm :=
  h.alone (Only.setCell w ⟨b, 4, none⟩ _ rfl) h.fullLt (h.blk.set 4 _)
theorem Box.cells (h : Box P B w b tv mb qv D ss qs its full last lm) : w.cell? ⟨b, 0, none⟩ = some tv ∧ w.cell? ⟨b, 1, none⟩ = some (.map (some mb)) ∧ w.cell? ⟨b, 2, none⟩ = some qv ∧ w.cell? ⟨b, 3, none⟩ = some (.int .u64 full) ∧ w.cell? ⟨b, 4, none⟩ = some (.int .i64 last) :=
  ⟨h.blk.cell rfl, h.blk.cell rfl, h.blk.cell rfl, h.blk.cell rfl, h.blk.cell rfl⟩
theorem one_cell {w : World} {t : TypeId} {v : Value} {n : Nat} {xs : List Value} (h : w.ownsRow B t 1 v n xs) (i : Nat) (x : Value) (hx : xs[i]? = some x) : ∃ g c, v = .slice (some ⟨g, 0, none⟩) n c ∧ w.cell? ⟨g, i, none⟩ = some x ∧ n ≤ c := by
  rcases h.2 with ⟨_, h0⟩ | ⟨g, cap, cur, e, _, _, hc, _⟩
  · have := h.1
    subst h0
    have e : xs = [] := List.eq_nil_of_length_eq_zero (by omega)
    rw [e] at hx; cases hx
  · subst e
    have := h.cells (g := g) rfl i x hx
    rw [show (⟨g, 0, none⟩ : Addr).add i = ⟨g, 0 + i, none⟩ from Go.WideShapes.add_plain _ _ _] at this
    exact ⟨g, cap, rfl, by simpa using this, hc⟩
theorem Box.queue (h : Box P B w b tv mb qv D ss qs its full last lm) (j : Nat) (hj : j < ss.length) : ∃ g c, qv = .slice (some ⟨g, 0, none⟩) ss.length c ∧ w.cell? ⟨g, j, none⟩ = some (.pointer (some ⟨(qs j).p, 0, none⟩)) := by
  obtain ⟨g, c, e, hc, _⟩ := one_cell h.row j (.pointer (some ⟨(qs j).p, 0, none⟩)) (by simp [ptrs, hj])
  exact ⟨g, c, e, hc⟩
theorem Box.tag (h : Box P B w b tv mb qv D ss qs its full last lm) (j : Nat) (hj : j < ss.length) : ∃ g c, tv = .slice (some ⟨g, 0, none⟩) ss.length c ∧ w.cell? ⟨g, j, none⟩ = some (.string (ss.getD j ByteArray.empty)) := by
  obtain ⟨g, c, e, hc, _⟩ := one_cell h.tags j (.string (ss.getD j ByteArray.empty)) (by simp [strsV, hj])
  exact ⟨g, c, e, hc⟩
theorem Box.size (h : Box P B w b tv mb qv D ss qs its full last lm) (j : Nat) (hj : j < ss.length) : (ss.getD j ByteArray.empty).size ≤ maxLen :=
  h.sizes _ (by rw [show ss.getD j ByteArray.empty = ss[j] by simp [List.getD, hj]]; exact List.getElem_mem hj)
theorem of_any (h : Box P B w b tv mb qv D ss qs its full last lm) (j : Nat) (hj : j < ss.length) :
    Calls Try.prog 14 #[.pointer (some ⟨b, 0, none⟩), .string (ss.getD j ByteArray.empty)] w fun e w' => e = .returned (.pointer (some ⟨(qs j).p, 0, none⟩)) ∧ w' = w := by
  obtain ⟨c0, c1, c2, c3, c4⟩ := h.cells
  obtain ⟨g, c, rfl, cq⟩ := h.queue j hj
  have hlk := Lib.hid (look_run h.map (h.size j hj) (h.nums j hj) true)
  clear h
  generalize ss.getD j ByteArray.empty = s at *
  go_enter Try.func14, Try.ntmps14
  go_wp2_with (at_lookup; refine wpList_look _ rfl _ _ _ true rfl _ _ _ rfl rfl hlk.out ?_)
  go_ret
  exact ⟨rfl, rfl⟩
end
end Go.Proofs.Ytcekipbjimbinaa
