/- A mailbox's Take of one message. -/
import Derived.Test.YtcekipbjimbinaaBoxFull
import Derived.Test.YtcekipbjimbinaaSorted
namespace Go.Proofs.Ytcekipbjimbinaa
open Go.RowKit Go.Shelf Go.WideShapes Go.Maps
variable {P : Pl} {B : Nat} {w : World} {b : Nat} {tv : Value} {mb : Nat} {qv : Value} {D : DataW Unit} {ss : List ByteArray} {qs : Nat → Qd} {its : Nat → List (Int × Int)} {full : Nat} {last lm : Int}

theorem info_msg : (Try.prog.info? 31).map (fun i => (i.zero, i.size, i.bytes)) = some (some (.agg #[.int .i64 0, .string ByteArray.empty, .slice none 0 0]), 3, 48) := by kernel_rfl
theorem wpList_append_known {Q : Program} (w : World) {ops : Array Oper} {rest : List Oper} {o : Oper} {a : Act} {K : Exit → Act → World → Prop}
    (hg : o.guard = none) (s x : Operand) (t : TypeId) (hop : o.op = Op.call { callee := Callee.builtin Builtin.append, args := #[s, x], argTypes := #[t, t] }) (v u : Value) (hs : a.eval s = v) (hx : a.eval x = u)
    (R : Value → World → Prop) (hrun : ∃ v' w', (Builtin.append_ #[t, t] o.type #[v, u]).run Q w = .ok v' w' ∧ R v' w') (hK : ∀ v' w', R v' w' → wpList Q ops K rest (a.put o.dst v') w') :
    wpList Q ops K (o :: rest) a w := by
  refine wpList_plain hg fun K0 hK' => ?_
  obtain ⟨v', w', hrun, r⟩ := hrun
  unfold Oper.wp execOp
  simp only [hop, resolve, invoke, builtin, Sem.run_bind, Sem.run_pure, Result.andThen_ok, List.map_toArray, List.map_cons, List.map_nil, hs, hx, hrun]
  exact hK' _ _ (hK v' w' r)
theorem app_msg (w : World) (id : Int) (s : ByteArray) :
    ∃ v' w', (Builtin.append_ #[33, 33] 33 #[.slice none 0 0, .slice (some ⟨w.heap.size, 0, none⟩) 1 1]).run Try.prog (w.alloc (.cells #[.int .i64 id, .string s, .slice none 0 0] 31)) = .ok v' w' ∧
      ((∃ g c, v' = .slice (some ⟨g, 0, none⟩) 1 c ∧ w'.cell? ⟨g, 0, none⟩ = some (.int .i64 id) ∧ w.heap.size ≤ g) ∧ Below w.heap.size w w') := by
  obtain ⟨i0, hi, hz0, hz1, hz2⟩ := info_parts info_msg
  have hnew := Blk.new w #[.int .i64 id, .string s, .slice none 0 0] 31
  obtain ⟨v', w', hr, ho, hg, _⟩ := run_append_own (P := Try.prog) (w.alloc (.cells #[.int .i64 id, .string s, .slice none 0 0] 31)) w.heap.size 33 33 31 i0 _ 3 48 Try.underlying33 hi hz0 hz1 hz2 rfl (by decide) (.slice none 0 0) 0 [] (World.ownsRow_nil _ _ _ _) ⟨w.heap.size, 0, none⟩ 1 1 [.int .i64 id, .string s, .slice none 0 0] rfl (fun k u hu => by
    rw [Go.WideShapes.add_plain, Nat.zero_add]
    match k, hu with
    | 0, hu => rw [hnew.cell (i := 0) rfl]; simpa using hu
    | 1, hu => rw [hnew.cell (i := 1) rfl]; simpa using hu
    | 2, hu => rw [hnew.cell (i := 2) rfl]; simpa using hu
    | k + 3, hu => simp at hu) (fun u hu => by
    simp at hu
    rcases hu with rfl | rfl | rfl <;> rfl) (by unfold maxLen; omega) (by omega) (by simp)
  refine ⟨v', w', hr, ?_, ((Below.refl _ w).alloc (Nat.le_refl _) _).grown hg (by simp) (fun k e => by simp [Value.ownBlock] at e)⟩
  rcases ho.2 with ⟨_, h0⟩ | ⟨g, cap, cur, e, hb, hgg, _⟩
  · exact absurd h0 (by decide)
  · subst e
    have := ho.cells (g := g) rfl 0 (.int .i64 id) (by simp)
    rw [show (⟨g, 0, none⟩ : Addr).add 0 = ⟨g, 0 + 0, none⟩ from Go.WideShapes.add_plain _ _ _] at this
    exact ⟨g, cap, rfl, this, hb⟩
set_option maxRecDepth 100000 in
set_option maxHeartbeats 4000000 in
theorem box_take (h : Box P B w b tv mb qv D ss qs its full last last) (j m : Nat) (hj : j < ss.length) (hm : m < (its j).length) (id : Int) (hid : idAt (its j) m = id) (hx : ((its j).getD m (0, 0)).2 = 0) (htwo : 2 ≤ (its j).length) (hno : ∀ i, i < j → ∀ k, k < (its i).length → idAt (its i) k ≠ id)
    (g : Nat) (hg : Blk w g #[.int .i64 id] 3) :
    Calls Try.prog 8 #[.pointer (some ⟨b, 0, none⟩), .slice (some ⟨g, 0, none⟩) 1 1] w fun e w' => ∃ gm cm d', e = .returned (.tuple #[.slice (some ⟨gm, 0, none⟩) 1 cm, .int .i64 0]) ∧ w'.cell? ⟨gm, 0, none⟩ = some (.int .i64 id) ∧ Box P B w' b tv mb qv D ss (upd qs j d') (upd its j ((its j).eraseIdx m)) full last last ∧ Below B w w' := by
  have hlo : B ≤ w.heap.size := Nat.le_trans h.lo (Nat.le_of_lt h.blk.lt)
  have hV := Lib.hid (callsIn_wide.1 (vals_in 5 (some ⟨g, 0, none⟩) 1 1 w))
  have hB1 : Below w.heap.size w (w.alloc (.cells #[.slice (some ⟨g, 0, none⟩) 1 1] 61)) := (Below.refl _ w).alloc (Nat.le_refl _) _
  have hS := Lib.hid (sorted_one w.heap.size g 1 id (w.alloc (.cells #[.slice (some ⟨g, 0, none⟩) 1 1] 61)) (by simp) ((Blk.new w #[.slice (some ⟨g, 0, none⟩) 1 1] 61).cell rfl) (by simp; exact Nat.lt_succ_of_lt hg.lt) ((hg.alloc _).cell rfl))
  replace hB1 := Lib.hid hB1
  replace h := Lib.hid h
  replace hg := Lib.hid hg
  go_enter Try.func8, Try.ntmps8
  go_wp2_with fail
  refine hV.out.mono ?_
  rintro e w1 ⟨rfl, rfl⟩
  go_wp2_with fail
  refine hS.out.mono ?_
  rintro e w2 ⟨v, rfl, ho, hB2⟩
  obtain ⟨gs, cs, rfl⟩ : ∃ gs cs, v = .slice (some ⟨gs, 0, none⟩) 1 cs := by
    rcases ho.2 with ⟨_, h0⟩ | ⟨gs, cs, cur, e, _⟩
    · exact absurd h0 (by decide)
    · exact ⟨gs, cs, e⟩
  have hB3 := Lib.hid (hB1.out.trans (hB2.mono hB1.out.size))
  have hK := Lib.hid (compact_one gs cs w2)
  clear ho hB2
  go_wp2_with fail
  refine hK.out.mono ?_
  rintro e w3 ⟨rfl, rfl⟩
  have hb3 := Lib.hid (h.out.below hB3.out)
  have hg3 := Lib.hid (hg.out.below hB3.out hg.out.lt)
  have hFi := Lib.hid (fun q => box_find (hb3.out.drewN q) id j m hj hm hid hno)
  have cg : w3.cell? ⟨g, 0, none⟩ = some (.int .i64 id) := hg3.out.cell rfl
  have hOf := Lib.hid (fun q => of_any (hb3.out.drewN q) j hj)
  have hTk := fun q => qd_take ((hb3.out.drewN q).que j hj) m hm
  rw [hid, hx, P.z.1, P.z.2.1, P.z.2.2] at hTk
  replace hTk := Lib.hid hTk
  have hCl := Lib.hid clone_nil
  replace hno := Lib.hid hno
  replace hid := Lib.hid hid
  generalize ss.getD j ByteArray.empty = s at *
  go_wp2_with fail
  go_loopw [34] (fun v wr => (v = .int .i64 0 ∧ wr = w3) ∨ (v = .int .i64 1 ∧ ∃ q, wr = w3.drewN q)) (fun v _ => 1 - (intOf v).toNat)
  case atStart => exact .inl ⟨rfl, rfl⟩
  case round =>
    rcases hrel with ⟨rfl, rfl⟩ | ⟨rfl, q, rfl⟩
    · go_wp2_with fail
      refine (hFi.out 0).mono ?_
      rintro e w4 ⟨rfl, q1, rfl⟩
      go_wp2_with fail
      exact ⟨.inr ⟨by go_num, q1, rfl⟩, by simp [intOf]⟩
    · go_wp2_with fail
      go_loopw [12, 50] (fun v12 v50 wr => (v50 = .int .i64 0 ∧ v12 = .slice none 0 0 ∧ ∃ q, wr = w3.drewN q) ∨ (v50 = .int .i64 1 ∧ ∃ gm cm d', v12 = .slice (some ⟨gm, 0, none⟩) 1 cm ∧ Hid (wr.cell? ⟨gm, 0, none⟩ = some (.int .i64 id)) ∧ Hid (Box P B wr b tv mb qv D ss (upd qs j d') (upd its j ((its j).eraseIdx m)) full last last) ∧ Hid (Below B w wr))) (fun _ v _ => 1 - (intOf v).toNat)
      case atStart => exact .inl ⟨rfl, rfl, q, rfl⟩
      case round =>
        rcases hrel with ⟨rfl, rfl, q, rfl⟩ | ⟨rfl, gm, cm, d', rfl, hcm, hBx, hlow⟩
        · go_wp2_with fail
          refine (hFi.out q).mono ?_
          rintro e w4 ⟨rfl, q1, rfl⟩
          go_wp2_with fail
          refine (hOf.out (q + q1)).mono ?_
          rintro e w4 ⟨rfl, rfl⟩
          go_wp2_with fail
          refine (hTk.out (q + q1)).mono ?_
          rintro e w5 ⟨rfl, d', hd, hp, hl, hrv, ho⟩
          have hb5 := Lib.hid ((hb3.out.drewN (q + q1)).step hj hd hp (lm' := last) (by rw [hl]; exact hb3.out.lasts j hj) (fun k e => .inl (hrv ▸ e)) ho (Int.le_refl _))
          have hlow5 := Lib.hid (show Below B w w5 from (hB3.out.mono hlo).trans ((below_drawn (Below.refl B w3) (q + q1)).trans (ho.below (Nat.le_trans hlo hB3.out.size) (fun k hk => by obtain ⟨_, _, _, _, h⟩ := (hb3.out.que j hj).types k hk; exact h))))
          have hlen5 := has_len hd.has
          rw [hp, List.length_eraseIdx, if_pos hm] at hlen5
          have tz : ((((its j).length - 1 : Nat) : Int) == 0) = false := by rw [beq_eq_false_iff_ne]; omega
          generalize (its j).length - 1 = nl at *
          have hap := Lib.hid (app_msg w5 id s)
          replace hlen5 := Lib.hid hlen5
          replace hd := Lib.hid hd
          replace ho := Lib.hid ho
          go_wp2_with fail
          refine hlen5.out.mono ?_
          rintro e w6 ⟨rfl, rfl⟩
          go_wp2_with fail
          refine (hCl.out _).mono ?_
          rintro e w7 ⟨rfl, rfl⟩
          go_wp2_with (at_builtin; refine wpList_append_known _ rfl (.tmp 87) (.tmp 93) 33 rfl _ _ rfl rfl _ hap.out ?_; rintro v8 w8 ⟨⟨gm, cm, rfl, hcm, hgm⟩, hB8⟩; replace hcm := Lib.hid hcm; replace hB8 := Lib.hid hB8)
          have hlo7 : B ≤ w7.heap.size := Nat.le_trans hb5.out.lo (Nat.le_of_lt hb5.out.blk.lt)
          exact ⟨.inr ⟨by go_num, gm, cm, d', rfl, hcm, Lib.hid (hb5.out.below hB8.out), Lib.hid (hlow5.out.trans (hB8.out.mono hlo7))⟩, by simp [intOf]⟩
        · go_wp2_with fail
          go_ret2
          exact ⟨gm, cm, d', rfl, hcm.out, hBx.out, hlow.out⟩
end Go.Proofs.Ytcekipbjimbinaa
