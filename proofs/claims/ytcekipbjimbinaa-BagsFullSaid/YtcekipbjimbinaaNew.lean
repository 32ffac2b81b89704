/- A new mailbox. -/
import Derived.Test.YtcekipbjimbinaaBoxTake
import Derived.Carry
namespace Go.Proofs.Ytcekipbjimbinaa
open Go.RowKit Go.Shelf Go.WideShapes Go.Maps

theorem strs_nil (w : World) : (Go.binOp .eql 22 (.slice none 0 0) (.slice none 0 0)).run Try.prog w = .ok (.bool true) w := by kernel_rfl
theorem strs_not_nil (g L c : Nat) (w : World) : (Go.binOp .eql 22 (.slice (some ⟨g, 0, none⟩) L c) (.slice none 0 0)).run Try.prog w = .ok (.bool false) w := by kernel_rfl
theorem info_str : (Try.prog.info? 9).map (fun i => (i.zero, i.size, i.bytes)) = some (some (.string ByteArray.empty), 1, 16) := by kernel_rfl
theorem info_ptr : (Try.prog.info? 53).map (fun i => (i.zero, i.size, i.bytes)) = some (some (.pointer none), 1, 8) := by kernel_rfl
theorem clone_strs {w : World} {B : Nat} {v : Value} {ss : List ByteArray} (h : w.ownsRow B 9 1 v ss.length (strsV ss)) (hL : ss.length ≤ 64) :
    Calls Try.prog 12 #[v] w fun e w' => ∃ v', e = .returned v' ∧ w'.ownsRow w.heap.size 9 1 v' ss.length (strsV ss) ∧ Below w.heap.size w w' := by
  obtain ⟨i0, hi, hz0, hz1, hz2⟩ := info_parts info_str
  rcases h.2 with ⟨rfl, h0⟩ | ⟨g, cap, cur, rfl, hb, hg, hn, hm, hs, ht⟩
  · have hnn := strs_nil
    have hss : ss = [] := List.eq_nil_of_length_eq_zero h0
    subst hss
    go_enter Try.func12, Try.ntmps12
    go_wp2_with fail
    go_ret
    exact ⟨_, rfl, World.ownsRow_nil _ _ _ _, Below.refl _ _⟩
  · have hnn := strs_not_nil
    have hown : (w.alloc (.cells #[] 9)).ownsRow w.heap.size 9 1 (.slice (some ⟨w.heap.size, 0, none⟩) 0 0) 0 [] := World.ownsRow_made w #[] 0 (Nat.le_refl _) (by simp) (by simp)
    have hsrc := own_belowE h ((Below.refl _ w).alloc (Nat.le_refl _) (.cells #[] 9))
    have hap := run_append_own (P := Try.prog) (w.alloc (.cells #[] 9)) w.heap.size 22 22 9 i0 (.string ByteArray.empty) 1 16 Try.underlying22 hi hz0 hz1 hz2 rfl (by decide) _ 0 [] hown ⟨g, 0, none⟩ ss.length cap (strsV ss) h.1 (hsrc.cells (g := g) rfl) (fun u hu => by
      obtain ⟨x, _, rfl⟩ := List.mem_map.1 hu
      rfl) (by unfold maxLen; omega) (by omega) (by simp)
    have hap2 : ∃ v' w', (Builtin.append_ #[22, 22] 22 #[.slice (some ⟨w.heap.size, 0, none⟩) 0 0, .slice (some ⟨g, 0, none⟩) ss.length cap]).run Try.prog (w.alloc (.cells #[] 9)) = .ok v' w' ∧ (w'.ownsRow w.heap.size 9 1 v' ss.length (strsV ss) ∧ Below w.heap.size w w') := by
      obtain ⟨v', w', h1, h2, h3, _⟩ := hap
      refine ⟨v', w', h1, by simpa using h2, ((Below.refl _ w).alloc (Nat.le_refl _) _).grown h3 (by simp) (fun k e => ?_)⟩
      have : w.heap.size = k := by simpa [Value.ownBlock] using e
      omega
    replace hap2 := Lib.hid hap2
    clear hap hsrc hown
    generalize ss.length = L at *
    go_enter Try.func12, Try.ntmps12
    go_wp2_with (at_builtin; refine wpList_append_known _ rfl (.tmp 5) (.tmp 6) 22 rfl _ _ rfl rfl _ hap2.out ?_; rintro v1 w5 ⟨ho1, hB1⟩)
    go_ret
    exact ⟨_, rfl, ho1, hB1⟩
/-- A mailbox that is being made: i tags are in. -/
structure Mk (B : Nat) (w : World) (b : Nat) (tv : Value) (mb : Nat) (qv : Value) (D : DataW Unit) (ss : List ByteArray) (qs : Nat → Qd) (i im : Nat) : Prop where
  blk : Blk w b #[tv, .map (some mb), qv, .int .u64 0, .int .i64 (-1)] 52
  lo : B ≤ b
  tags : w.ownsRow B 9 1 tv ss.length (strsV ss)
  map : w.ownsMap Try.prog 9 (plainElem Try.prog 3) mb im D
  num : Num D ss im
  keys : Keys D ss im
  row : w.ownsRow B 53 1 qv i (ptrs i qs)
  que : ∀ (P : Pl) k, k < i → HasD P B w (qs k) []
  nil : ∀ k, k < i → (qs k).rv = .slice none 0 0 ∧ (qs k).last = -1
  apart : ∀ a c, a < i → c < i → a ≠ c → (qs a).p ≠ (qs c).p
section
variable {B : Nat} {w : World} {b : Nat} {tv : Value} {mb : Nat} {qv : Value} {D : DataW Unit} {ss : List ByteArray} {qs : Nat → Qd} {i im : Nat}
theorem own_at {w w' : World} {t : TypeId} {v : Value} {n : Nat} {xs : List Value} (h : w.ownsRow B t 1 v n xs) (hk : ∀ (k : Nat) (cur : Array Value), w.heap[k]? = some (Obj.cells cur t (0, 0)) → w'.heap[k]? = w.heap[k]?) : w'.ownsRow B t 1 v n xs := own_same h hk
/-- All blocks of cells but rows of pointers stay, and the map stays. -/
theorem hasD_keep {P : Pl} {w' : World} {d : Qd} (h : HasD P B w d []) (hk : ∀ (k : Nat) (cur : Array Value) (t : TypeId), w.heap[k]? = some (Obj.cells cur t (0, 0)) → t ≠ 53 → w'.heap[k]? = w.heap[k]?) : HasD P B w' d [] := by
  refine ⟨⟨(hk _ _ _ h.que.blk.eq (by decide)).trans h.que.blk, ⟨h.que.own.1, ?_⟩, h.que.lo, h.que.fits, h.que.small, h.que.most1⟩, h.items, h.ring, h.rise, h.most⟩
  rcases h.que.own.2 with h0 | ⟨g, c, cur, e3, hb, hg, h4⟩
  · exact .inl h0
  · exact .inr ⟨g, c, cur, e3, hb, (hk _ _ _ hg (by decide)).trans hg, h4⟩
theorem Mk.below {w' : World} (h : Mk B w b tv mb qv D ss qs i im) (hB : Below w.heap.size w w') : Mk B w' b tv mb qv D ss qs i im := by
  refine ⟨h.blk.below hB h.blk.lt, h.lo, own_belowE h.tags hB, ?_, h.num, h.keys, own_belowE h.row hB, fun P k hk => (h.que P k hk).below hB, h.nil, h.apart⟩
  obtain ⟨es, cl, hm, hr⟩ := h.map
  exact ⟨es, cl, (hB.block mb (Array.getElem?_eq_some_iff.1 hm).1).trans hm, hr⟩
/-- A new queue is put behind the others. -/
theorem Mk.grow {w' : World} {qv' : Value} {p : Nat} (h : Mk B w b tv mb qv D ss qs i (i + 1)) (hg : w.grownBy w' qv.ownBlock) (hr : w'.ownsRow B 53 1 qv' (i + 1) (ptrs i qs ++ [.pointer (some ⟨p, 0, none⟩)])) 
    (hq : ∀ P, HasD P B w ⟨p, .slice none 0 0, [], 0, 0, -1⟩ []) (hp : ∀ k, k < i → (qs k).p ≠ p) : Mk B (w'.setCell ⟨b, 2, none⟩ qv') b tv mb qv' D ss (upd qs i ⟨p, .slice none 0 0, [], 0, 0, -1⟩) (i + 1) (i + 1) := by
  have hrow : ∀ k, qv.ownBlock = some k → ∃ cur, w.heap[k]? = some (Obj.cells cur 53 (0, 0)) := fun k hk => by
    rcases h.row.2 with ⟨e, _⟩ | ⟨g, cap, cur, e, _, hgg, _⟩
    · rw [e] at hk; simp [Value.ownBlock] at hk
    · rw [e] at hk
      have : g = k := by simpa [Value.ownBlock] using hk
      exact ⟨cur, this ▸ hgg⟩
  have keep : ∀ (k : Nat) (o : Obj), w.heap[k]? = some o → (∀ cur, o ≠ .cells cur 53 (0, 0)) → w'.heap[k]? = w.heap[k]? := fun k o e h1 => hg.block k (Array.getElem?_eq_some_iff.1 e).1 (fun e2 => by
    obtain ⟨cur, e3⟩ := hrow k e2.symm
    rw [e] at e3
    cases e3
    exact h1 _ rfl)
  have hblk : Blk w' b _ _ := (keep b _ h.blk.eq (fun cur e => by cases e)).trans h.blk.eq
  have keep2 : ∀ (k : Nat) (o : Obj), w.heap[k]? = some o → (∀ cur, o ≠ .cells cur 53 (0, 0)) → (∀ cur, o ≠ .cells cur 52 (0, 0)) → (w'.setCell ⟨b, 2, none⟩ qv').heap[k]? = w.heap[k]? := fun k o e h1 h2 => (heap_setCell_other _ _ _ _ (fun e2 => by
    have e3 : k = b := e2
    subst e3
    rw [h.blk.eq] at e
    cases e
    exact h2 _ rfl)).trans (keep k o e h1)
  have hqs : ∀ k, k < i → upd qs i ⟨p, .slice none 0 0, [], 0, 0, -1⟩ k = qs k := fun k hk => upd_other _ _ (by omega)
  have hD : ∀ P d, HasD P B w d [] → HasD P B (w'.setCell ⟨b, 2, none⟩ qv') d [] := fun P d hd => by
    refine ⟨⟨(keep2 _ _ hd.que.blk.eq (fun cur e => by cases e) (fun cur e => by cases e)).trans hd.que.blk, ⟨hd.que.own.1, ?_⟩, hd.que.lo, hd.que.fits, hd.que.small, hd.que.most1⟩, hd.items, hd.ring, hd.rise, hd.most⟩
    rcases hd.que.own.2 with h0 | ⟨g, c, cur, e3, hb, hg, h4⟩
    · exact .inl h0
    · exact .inr ⟨g, c, cur, e3, hb, (keep2 _ _ hg (fun cur e => by cases e) (fun cur e => by cases e)).trans hg, h4⟩
  have hrb : qv'.ownBlock ≠ some b := fun e => by
    rcases hr.2 with ⟨e2, _⟩ | ⟨g, cap, cur, e2, _, hgg, _⟩
    · rw [e2] at e; simp [Value.ownBlock] at e
    · rw [e2] at e
      have : g = b := by simpa [Value.ownBlock] using e
      rw [this, hblk.eq] at hgg
      simp at hgg
  refine ⟨hblk.set 2 _, h.lo, own_same h.tags (fun k cur e => keep2 k _ e (fun cur e => by cases e) (fun cur e => by cases e)), ?_, h.num, h.keys, ?_, fun P k hk => ?_, fun k hk => ?_, fun a c ha hc hne => ?_⟩
  · obtain ⟨es, cl, hm, hrr⟩ := h.map
    exact ⟨es, cl, (keep2 mb _ hm (fun cur e => by cases e) (fun cur e => by cases e)).trans hm, hrr⟩
  · have e : ptrs (i + 1) (upd qs i ⟨p, .slice none 0 0, [], 0, 0, -1⟩) = ptrs i qs ++ [.pointer (some ⟨p, 0, none⟩)] := by
      unfold ptrs
      rw [List.range_succ, List.map_append, List.map_singleton, upd_same]
      congr 1
      exact List.map_congr_left fun k hk => by rw [hqs k (List.mem_range.1 hk)]
    rw [e]
    exact ownsRow_setCell_other hr hrb _
  · by_cases e : k = i
    · subst e; rw [upd_same]; exact hD P _ (hq P)
    · rw [hqs k (by omega)]; exact hD P _ (h.que P k (by omega))
  · by_cases e : k = i
    · subst e; rw [upd_same]; exact ⟨rfl, rfl⟩
    · rw [hqs k (by omega)]; exact h.nil k (by omega)
  · by_cases e : a = i
    · subst e
      rw [upd_same, hqs c (by omega)]
      exact fun e => hp c (by omega) e.symm
    · by_cases e2 : c = i
      · subst e2
        rw [upd_same, hqs a (by omega)]
        exact hp a (by omega)
      · rw [hqs a (by omega), hqs c (by omega)]
        exact h.apart a c (by omega) (by omega) hne
/-- The map has one more. -/
theorem Mk.put {w' : World} (h : Mk B w b tv mb qv D ss qs i i) {D' : DataW Unit} (hg : w.grownBy w' (some mb)) (hm : w'.ownsMap Try.prog 9 (plainElem Try.prog 3) mb (i + 1) D') (hn : Num D' ss (i + 1)) (hk : Keys D' ss (i + 1)) : Mk B w' b tv mb qv D' ss qs i (i + 1) := by
  have keep : ∀ (k : Nat) (cur : Array Value) (t : TypeId), w.heap[k]? = some (Obj.cells cur t (0, 0)) → w'.heap[k]? = w.heap[k]? := fun k cur t e => hg.block k (Array.getElem?_eq_some_iff.1 e).1 (fun e2 => by
    cases e2
    obtain ⟨es, cl, hmm, _⟩ := h.map
    rw [e] at hmm
    cases hmm)
  exact ⟨(keep _ _ _ h.blk.eq).trans h.blk, h.lo, own_same h.tags (fun k cur e => keep k _ _ e), hm, hn, hk, own_same h.row (fun k cur e => keep k _ _ e), fun P k hk => hasD_keep (h.que P k hk) (fun k cur t e _ => keep k cur t e), h.nil, h.apart⟩
theorem Mk.box {P : Pl} (h : Mk B w b tv mb qv D ss qs ss.length ss.length) (hs : size D = ss.length) (hss : ∀ s ∈ ss, s.size ≤ maxLen) (h64 : ss.length ≤ 64) : Box P B w b tv mb qv D ss qs (fun _ => []) 0 (-1) (-1) := by
  refine ⟨h.blk, h.lo, h.tags, h.map.mono (by omega), fun j hj z => h.num.2.2 hs j hj z, hss, h64, h.row, fun i hi => h.que P i hi, fun a c ha hc hne k hk hk2 => ?_, fun i hi => by rw [(h.nil i hi).2]; exact Int.le_refl _, by omega⟩
  rcases hk with rfl | e
  · rcases hk2 with e2 | e2
    · exact h.apart a c ha hc hne e2
    · rw [(h.nil c hc).1] at e2; simp [Value.ownBlock] at e2
  · rw [(h.nil a ha).1] at e; simp [Value.ownBlock] at e
theorem Mk.blk_grown {w' : World} (h : Mk B w b tv mb qv D ss qs i im) (hg : w.grownBy w' qv.ownBlock) : Blk w' b #[tv, .map (some mb), qv, .int .u64 0, .int .i64 (-1)] 52 := by
  refine h.blk.kept hg (fun e => ?_)
  rcases h.row.2 with ⟨e2, _⟩ | ⟨g, cap, cur, e2, _, hgg, _⟩
  · rw [e2] at e; simp [Value.ownBlock] at e
  · rw [e2] at e
    have : b = g := by simpa [Value.ownBlock] using e
    have h1 := h.blk.eq
    rw [this, hgg] at h1
    simp at h1
theorem app_ptr (h : Mk B w b tv mb qv D ss qs i im) (hi : i ≤ 64) (p : Nat) :
    ∃ v' w', (Builtin.append_ #[50, 50] 50 #[qv, .slice (some ⟨w.heap.size, 0, none⟩) 1 1]).run Try.prog (w.alloc (.cells #[.pointer (some ⟨p, 0, none⟩)] 53)) = .ok v' w' ∧
      ((∃ g c, v' = .slice (some ⟨g, 0, none⟩) (i + 1) c) ∧ w'.ownsRow B 53 1 v' (i + 1) (ptrs i qs ++ [.pointer (some ⟨p, 0, none⟩)]) ∧ (w.alloc (.cells #[.pointer (some ⟨p, 0, none⟩)] 53)).grownBy w' qv.ownBlock) := by
  obtain ⟨i0, hi0, hz0, hz1, hz2⟩ := info_parts info_ptr
  have hlo : B ≤ w.heap.size := Nat.le_trans h.lo (Nat.le_of_lt h.blk.lt)
  obtain ⟨v', w', hr, ho, hg, _⟩ := run_append_own (P := Try.prog) (w.alloc (.cells #[.pointer (some ⟨p, 0, none⟩)] 53)) B 50 50 53 i0 (.pointer none) 1 8 Try.underlying50 hi0 hz0 hz1 hz2 rfl (by decide) qv i _ (own_belowE h.row ((Below.refl _ w).alloc (Nat.le_refl _) _)) ⟨w.heap.size, 0, none⟩ 1 1 [.pointer (some ⟨p, 0, none⟩)] rfl (cell_one_new _ _ _) (by simp [Value.oneCell']) (by unfold maxLen; omega) (by omega) (by simp; omega)
  refine ⟨v', w', hr, ?_, ho, hg⟩
  rcases ho.2 with ⟨_, h0⟩ | ⟨g, cap, cur, e, _⟩
  · omega
  · exact ⟨g, cap, e⟩
end
def Pl.zero : Pl := ⟨fun _ => none, fun _ => 0, fun _ => 0, rfl, rfl, rfl⟩
theorem q_new (B : Nat) (w : World) (hB : B ≤ w.heap.size) : Calls Try.prog 13 #[.int .i64 12] w fun e w' => ∃ p, e = .returned (.tuple #[.pointer (some ⟨p, 0, none⟩), .int .i64 0]) ∧ (∀ P, HasD P B w' ⟨p, .slice none 0 0, [], 0, 0, -1⟩ []) ∧ w.heap.size ≤ p ∧ Below w.heap.size w w' := by
  refine (new_any (P := Pl.zero) 12 (by decide) w).mono ?_
  rintro e w' ⟨p, rfl, hq, hBel⟩
  exact ⟨p, rfl, fun P => ⟨⟨hq.blk, World.ownsRow_nil _ _ _ _, Nat.le_trans hB hq.lo, .inr ⟨rfl, rfl, rfl⟩, by simp, by simp⟩, rfl, .inl ⟨0, rfl⟩, fun i j _ h => absurd h (by simp), fun i h => absurd h (by simp)⟩, hq.lo, hBel⟩
set_option maxRecDepth 100000 in
set_option maxHeartbeats 4000000 in
theorem box_new {B0 : Nat} {w : World} {v : Value} {ss : List ByteArray} (hv : w.ownsRow B0 9 1 v ss.length (strsV ss)) (hss : ∀ s ∈ ss, s.size ≤ maxLen) :
    Calls Try.prog 5 #[v] w fun e w' => Below w.heap.size w w' ∧ ((e = .returned (.tuple #[.pointer none, .int .i64 2]) ∧ (64 < ss.length ∨ ¬ ∀ a b, a < b → b < ss.length → ss.getD a ByteArray.empty ≠ ss.getD b ByteArray.empty)) ∨
      (ss.length ≤ 64 ∧ ∃ b tv mb qv D qs, e = .returned (.tuple #[.pointer (some ⟨b, 0, none⟩), .int .i64 0]) ∧ ∀ P, Box P w.heap.size w' b tv mb qv D ss qs (fun _ => []) 0 (-1) (-1))) := by
  obtain ⟨va, vc, rfl⟩ : ∃ a c, v = .slice a ss.length c := by
    rcases hv.2 with ⟨e, h0⟩ | ⟨g, cap, cur, e, _⟩
    · exact ⟨none, 0, by rw [e, h0]⟩
    · exact ⟨_, cap, e⟩
  by_cases h64 : 64 < ss.length
  · go_enter Try.func5, Try.ntmps5
    go_wp2_with fail
    go_ret2
    exact ⟨Below.refl _ _, .inl ⟨rfl, .inl h64⟩⟩
  have h64' : ss.length ≤ 64 := by omega
  have hC := Lib.hid (clone_strs hv h64')
  have hvv := Lib.hid hv
  replace hss := Lib.hid hss
  clear hv h64
  go_enter Try.func5, Try.ntmps5
  go_wp2_with fail
  refine hC.out.mono ?_
  rintro e w1 ⟨tv, rfl, htv, hB1⟩
  obtain ⟨ta, tc, rfl⟩ : ∃ a c, tv = .slice a ss.length c := by
    rcases htv.2 with ⟨e, h0⟩ | ⟨g, cap, cur, e, _⟩
    · exact ⟨none, 0, by rw [e, h0]⟩
    · exact ⟨_, cap, e⟩
  have hmm := @run_makeMap Try.prog
  have hMk0 : Mk w.heap.size ((w1.alloc (.map #[] 0)).alloc (.cells #[.slice ta ss.length tc, .map (some w1.heap.size), .slice none 0 0, .int .u64 0, .int .i64 (-1)] 52)) (w1.heap.size + 1) (.slice ta ss.length tc) w1.heap.size (.slice none 0 0) (.map []) ss (fun _ => ⟨0, .slice none 0 0, [], 0, 0, -1⟩) 0 0 := by
    have hsz := hB1.size
    have e1 := Blk.new (w1.alloc (.map #[] 0)) #[.slice ta ss.length tc, .map (some w1.heap.size), .slice none 0 0, .int .u64 0, .int .i64 (-1)] 52
    rw [World.size_alloc] at e1
    exact ⟨e1, by omega, own_belowE (own_belowE htv ((Below.refl _ _).alloc (Nat.le_refl _) _)) ((Below.refl _ _).alloc (Nat.le_refl _) _), (World.ownsMap_made _ _ _ _).alloc _, num_zero ss, keys_zero ss, World.ownsRow_nil _ _ _ _, fun P k hk => absurd hk (Nat.not_lt_zero _), fun k hk => absurd hk (Nat.not_lt_zero _), fun a c ha => absurd ha (Nat.not_lt_zero _)⟩
  have hB2 : Below w.heap.size w ((w1.alloc (.map #[] 0)).alloc (.cells #[.slice ta ss.length tc, .map (some w1.heap.size), .slice none 0 0, .int .u64 0, .int .i64 (-1)] 52)) := (hB1.alloc hB1.size _).alloc (by rw [World.size_alloc]; have := hB1.size; omega) _
  replace htv := Lib.hid htv
  replace hB1 := Lib.hid hB1
  have hMblo := Lib.hid hB1.out.size
  replace hMk0 := Lib.hid hMk0
  replace hB2 := Lib.hid hB2
  go_wp2_with fail
  clear hmm
  generalize hws : (w1.alloc (.map #[] 0)).alloc (.cells #[.slice ta ss.length tc, .map (some w1.heap.size), .slice none 0 0, .int .u64 0, .int .i64 (-1)] 52) = w2 at *
  replace hws := Lib.hid hws
  generalize w1.heap.size + 1 = b at *
  generalize w1.heap.size = mb at *
  go_loopw [19] (fun v wr => ∃ i qv D qs, v = .int .i64 (i : Nat) ∧ Hid (i ≤ ss.length) ∧ Hid (Mk w.heap.size wr b (.slice ta ss.length tc) mb qv D ss qs i i) ∧ Hid (Below w.heap.size w wr)) (fun v _ => ss.length - (intOf v).toNat)
  case atStart => exact ⟨0, _, _, _, rfl, Lib.hid (by omega), hMk0, hB2⟩
  case round =>
    clear hMk0 hB2
    obtain ⟨i, qv, D, qs, rfl, hi, hMk, hB⟩ := hrel
    by_cases hlt : i < ss.length
    · obtain ⟨gv, cv, e, cvi, _⟩ := one_cell (own_belowE hvv.out (show Below w.heap.size w wr from hB.out)) i (.string (ss.getD i ByteArray.empty)) (by simp [strsV, hlt])
      cases e
      have hsi : (ss.getD i ByteArray.empty).size ≤ maxLen := hss.out _ (by rw [show ss.getD i ByteArray.empty = ss[i] by simp [List.getD, hlt]]; exact List.getElem_mem hlt)
      have hkey := key_of hsi
      have hnum := Lib.hid (num_step hMk.out.num)
      have hkeys := Lib.hid (keys_step hMk.out.num.1 hMk.out.keys)
      have cb1 : wr.cell? ⟨b, 1, none⟩ = some (.map (some mb)) := hMk.out.blk.cell rfl
      have hmap := hMk.out.map
      have hwi : IntKind.i64.wrap ((i : Int) + 1) = ((i + 1 : Nat) : Int) := by rw [IntWalk.i64_in _ (by omega)]; omega
      have hwf : (Lit.int .i64 (i : Int)).wf = true := by simp [Lit.wf, IntKind.min, IntKind.max, IntKind.signed, IntKind.bits]; omega
      generalize ss.getD i ByteArray.empty = s at *
      go_wp2_with (at_mapUpdate; refine wpList_mapUpdate_own _ rfl _ _ _ 49 rfl 9 3 strLaw Try.underlying49 _ mb i D rfl hmap (by unfold maxLen; omega) _ _ _ rfl rfl hkey _ [] (plainElem_int Try.underlying3 hwf) ?_; intro w4 hmap4 hgrow4)
      have hMk4 := hMk.out.put hgrow4 hmap4 hnum.out hkeys.out
      have hlo4 : w.heap.size ≤ w4.heap.size := Nat.le_trans hMk4.lo (Nat.le_of_lt hMk4.blk.lt)
      have hB4 : Below w.heap.size w w4 := hB.out.grown hgrow4 (Nat.le_trans hMk.out.lo (Nat.le_of_lt hMk.out.blk.lt)) (fun k e => by cases e; have := hMblo.out; omega)
      refine (q_new w.heap.size w4 hlo4).mono ?_
      rintro e w5 ⟨p, rfl, hq, hp5, hB5⟩
      have hMk5 := hMk4.below hB5
      have hap := Lib.hid (app_ptr hMk5 (by omega) p)
      have hpn : ∀ k, k < i → (qs k).p ≠ p := fun k hk e => by
        have := (hMk4.que Pl.zero k hk).que.blk.lt
        omega
      have hlow5 := Lib.hid (hB4.trans (hB5.mono hlo4))
      have cb2 : w5.cell? ⟨b, 2, none⟩ = some qv := hMk5.blk.cell rfl
      obtain ⟨qa, qc, rfl⟩ : ∃ a c, qv = .slice a i c := by
        rcases hMk5.row.2 with ⟨e, h0⟩ | ⟨g, cap, cur, e, _⟩
        · exact ⟨none, 0, by rw [e, h0]⟩
        · exact ⟨_, cap, e⟩
      replace hMk4 := Lib.hid hMk4
      replace hMk5 := Lib.hid hMk5
      replace hq := Lib.hid hq
      replace hmap4 := Lib.hid hmap4
      replace hmap := Lib.hid hmap
      replace hB4 := Lib.hid hB4
      replace hB5 := Lib.hid hB5
      replace hgrow4 := Lib.hid hgrow4
      clear hkey hwf cb1 cvi
      go_wp2_with (at_builtin; refine wpList_append_known _ rfl (.tmp 41) (.tmp 43) 50 rfl _ _ rfl rfl _ hap.out ?_; rintro v7 w7 ⟨⟨g7, c7, rfl⟩, ho7, hg7⟩; have hMk6 := hMk5.out.below ((Below.refl _ w5).alloc (Nat.le_refl _) (.cells #[.pointer (some ⟨p, 0, none⟩)] 53)); have hb7 := hMk6.blk_grown hg7; have cb7 : w7.cell? ⟨b, 2, none⟩ = _ := hb7.cell (i := 2) rfl; have fb7 := hb7.free 2; replace hb7 := Lib.hid hb7; replace hMk6 := Lib.hid hMk6; replace ho7 := Lib.hid ho7; replace hg7 := Lib.hid hg7)
      have hlo5 : w.heap.size ≤ w5.heap.size := Nat.le_trans hMk5.out.lo (Nat.le_of_lt hMk5.out.blk.lt)
      exact ⟨⟨i + 1, _, _, _, by go_num, Lib.hid (by omega), Lib.hid (hMk6.out.grow hg7.out ho7.out (fun P => (hq.out P).below ((Below.refl _ w5).alloc (Nat.le_refl _) _)) hpn), Lib.hid (((hlow5.out.alloc hlo5 _).grown hg7.out (by simp; omega) (fun k e => (hMk6.out.row.lt k e).1)).setCell (p := ⟨b, 2, none⟩) hMk5.out.lo _)⟩, by simp [intOf]; omega⟩
    · obtain rfl : i = ss.length := by have := hi.out; omega
      obtain ⟨es, cl, hes, hsz⟩ := map_len hMk.out.map
      have cb1 : wr.cell? ⟨b, 1, none⟩ = some (.map (some mb)) := hMk.out.blk.cell rfl
      have hlr : (Builtin.len_ #[49] 3 #[.map (some mb)]).run Try.prog wr = .ok (.int .i64 (es.size : Nat)) wr := run_len_map wr 49 3 mb es cl (by kernel_rfl) hes
      have hle := hMk.out.num.2.1
      have hkk := hMk.out.keys.2
      have hbx := Lib.hid (fun (P : Pl) (e : size D = ss.length) => hMk.out.box (P := P) e hss.out h64')
      rw [← hsz] at hle hkk hbx
      replace hMk := Lib.hid hMk
      replace hkk := Lib.hid hkk
      by_cases hfull : es.size = ss.length
      · rw [hfull] at hlr
        go_wp2_with fail
        go_ret2
        exact ⟨hB.out, .inr ⟨h64', _, _, _, _, _, _, rfl, fun P => hbx.out P hfull⟩⟩
      · have hlt2 : es.size < ss.length := by omega
        go_wp2_with fail
        go_ret2
        exact ⟨hB.out, .inl ⟨rfl, .inr (fun hd => hfull (hkk.out hd))⟩⟩
end Go.Proofs.Ytcekipbjimbinaa
