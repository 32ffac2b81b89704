/- A mailbox's Len, Find, Put. -/
import Derived.Test.YtcekipbjimbinaaBox
import Derived.LoopTactic
import Derived.Deep.RegionWith
import Derived.Deep.Cut
namespace Go.Proofs.Ytcekipbjimbinaa
open Go.RowKit Go.Shelf Go.WideShapes Go.Maps
variable {P : Pl} {B : Nat} {w : World} {b : Nat} {tv : Value} {mb : Nat} {qv : Value} {D : DataW Unit} {ss : List ByteArray} {qs : Nat → Qd} {its : Nat → List (Int × Int)} {full : Nat} {last lm : Int}

theorem box_len (h : Box P B w b tv mb qv D ss qs its full last lm) (j : Nat) (hj : j < ss.length) :
    Calls Try.prog 7 #[.pointer (some ⟨b, 0, none⟩), .string (ss.getD j ByteArray.empty)] w fun e w' => e = .returned (.int .i64 ((its j).length : Nat)) ∧ w' = w := by
  have hO := Lib.hid (of_any h j hj)
  have hL := Lib.hid (has_len (h.que j hj).has)
  generalize ss.getD j ByteArray.empty = s at *
  go_enter Try.func7, Try.ntmps7
  go_wp2_with fail
  refine hO.out.mono ?_
  rintro e w' ⟨rfl, rfl⟩
  go_wp2_with fail
  refine hL.out.mono ?_
  rintro e w2 ⟨rfl, rfl⟩
  go_wp2_with fail
  go_ret
  exact ⟨rfl, rfl⟩
theorem box_find (h : Box P B w b tv mb qv D ss qs its full last lm) (id : Int) (j m : Nat) (hj : j < ss.length) (hm : m < (its j).length) (hid : idAt (its j) m = id) (hno : ∀ i, i < j → ∀ k, k < (its i).length → idAt (its i) k ≠ id) :
    Calls Try.prog 22 #[.pointer (some ⟨b, 0, none⟩), .int .i64 id] w fun e w' => e = .returned (.tuple #[.string (ss.getD j ByteArray.empty), .int .i64 m, .bool true]) ∧ ∃ q, w' = w.drewN q := by
  obtain ⟨c0, c1, c2, c3, c4⟩ := h.cells
  obtain ⟨g, c, hqv, _⟩ := h.queue j hj
  obtain ⟨gt, ct, htv, ctj⟩ := h.tag j hj
  have hq := Lib.hid (fun i (hi : i < ss.length) => h.queue i hi)
  have hF := Lib.hid (fun i (hi : i < ss.length) q => has_find ((h.que i hi).has.drewN q) id)
  have hrise := Lib.hid (h.que j hj).rise
  have hfew := h.few
  clear h
  subst hqv
  subst htv
  generalize ss.getD j ByteArray.empty = s at *
  replace hno := Lib.hid hno
  replace hid := Lib.hid hid
  go_enter Try.func22, Try.ntmps22
  go_wp2_with fail
  go_loopw [18] (fun v wr => ∃ i q : Nat, v = .int .i64 i ∧ Hid (i ≤ j) ∧ wr = w.drewN q) (fun v _ => j - (intOf v).toNat)
  case atStart => exact ⟨0, 0, rfl, Lib.hid (by omega), rfl⟩
  case round =>
    obtain ⟨i, q, rfl, hij, rfl⟩ := hrel
    have hij2 := hij.out
    have hin : i < ss.length := by omega
    obtain ⟨g', c', e, cq⟩ := hq.out i hin
    cases e
    have hwi : IntKind.i64.wrap ((i : Int) + 1) = ((i + 1 : Nat) : Int) := by
      rw [IntWalk.i64_in _ (by omega)]; omega
    by_cases hlt : i < j
    · go_wp2_with fail
      refine (hF.out i hin q).mono ?_
      rintro e w2 ⟨⟨k, hk, he, _⟩ | ⟨_, rfl⟩, q2, rfl⟩
      · exact absurd he (hno.out i hlt k hk)
      go_wp2_with fail
      refine ⟨⟨i + 1, q + q2, by go_num, Lib.hid (by omega), rfl⟩, ?_⟩
      simp [intOf]; omega
    · obtain rfl : i = j := by omega
      go_wp2_with fail
      refine (hF.out i hin q).mono ?_
      rintro e w2 ⟨⟨k, hk, he, rfl⟩ | ⟨hn, _⟩, q2, rfl⟩
      · obtain rfl : k = m := by
          have h1 := hid.out
          rcases Nat.lt_trichotomy k m with h2 | h2 | h2
          · have := hrise.out k m h2 hm; omega
          · exact h2
          · have := hrise.out m k h2 hk; omega
        go_wp2_with fail
        go_ret3
        exact ⟨rfl, _, rfl⟩
      · exact absurd hid.out (hn m hm)
theorem clone_nil (w : World) : Calls Try.prog 16 #[.slice none 0 0] w fun e w' => e = .returned (.slice none 0 0) ∧ w' = w := by
  have hnn : ∀ w : World, (Go.binOp .eql 29 (.slice none 0 0) (.slice none 0 0)).run Try.prog w = .ok (.bool true) w := fun w => by kernel_rfl
  go_enter Try.func16, Try.ntmps16
  go_wp2_with fail
  go_ret
  exact ⟨rfl, rfl⟩
set_option maxRecDepth 100000 in
set_option maxHeartbeats 4000000 in
/-- Put, into a queue with room: the payload is cloned; the clone settles which payloads are meant. -/
theorem box_put (R : Pl → World → Prop) (hR : ∀ P V V', R P V → (∀ (k : Nat) (cur : Array Value), V.heap[k]? = some (Obj.cells cur 40 (0, 0)) → V'.heap[k]? = V.heap[k]?) → R P V') (W : Pl → Prop) (hW : ∃ P, W P) (h : ∀ P, W P → Box P B w b tv mb qv D ss qs its full last last) (j : Nat) (hj : j < ss.length) (id x : Int) (hid : last < id) (hlt : (its j).length < 12) (pa : Option Addr) (pl pc : Nat)
    (hcl : ∀ V, Below w.heap.size w V → Calls Try.prog 16 #[.slice pa pl pc] V fun e V' => Below V.heap.size V V' ∧ ∃ P, W P ∧ R P V' ∧ e = .returned (.slice (P.A x) (P.L x) (P.C x))) :
    Calls Try.prog 6 #[.pointer (some ⟨b, 0, none⟩), .agg #[.int .i64 id, .string (ss.getD j ByteArray.empty), .slice pa pl pc]] w fun e w' => e = .returned (.int .i64 0) ∧ ∃ P d', W P ∧ R P w' ∧ Box P B w' b tv mb qv D ss (upd qs j d') (upd its j (its j ++ [(id, x)])) (full ||| bitN (j : Int)) id id ∧ Below B w w' := by
  obtain ⟨P0, hP0⟩ := hW
  have hO := Lib.hid (fun V (hB : Below w.heap.size w V) q => of_any (((h P0 hP0).below hB).drewN q) j hj)
  have hlk := Lib.hid (fun V (hB : Below w.heap.size w V) => look_run ((h P0 hP0).below hB).map ((h P0 hP0).size j hj) ((h P0 hP0).nums j hj) false)
  have hmsg := Blk.new w #[.int .i64 id, .string (ss.getD j ByteArray.empty), .slice pa pl pc] 31
  have hB1 : Below w.heap.size w (w.alloc (.cells #[.int .i64 id, .string (ss.getD j ByteArray.empty), .slice pa pl pc] 31)) := (Below.refl _ w).alloc (Nat.le_refl _) _
  have hbm : w.heap.size < (w.alloc (.cells #[.int .i64 id, .string (ss.getD j ByteArray.empty), .slice pa pl pc] 31)).heap.size := by simp
  have hlo : B ≤ w.heap.size := Nat.le_trans (h P0 hP0).lo (Nat.le_of_lt (h P0 hP0).blk.lt)
  generalize hss : ss.getD j ByteArray.empty = s at *
  replace hss := Lib.hid hss
  have hid2 : ¬ id ≤ last := by omega
  go_enter Try.func6, Try.ntmps6
  go_wp2_with fail
  generalize hw1 : w.alloc (.cells #[.int .i64 id, .string s, .slice pa pl pc] 31) = w1 at *
  replace hw1 := Lib.hid hw1
  have hb1 := Lib.hid (fun P (hP : W P) => (h P hP).below hB1)
  obtain ⟨c0, c1, c2, c3, c4⟩ := (hb1.out P0 hP0).cells
  have m0 : w1.cell? ⟨w.heap.size, 0, none⟩ = some (.int .i64 id) := hmsg.cell rfl
  have m1 : w1.cell? ⟨w.heap.size, 1, none⟩ = some (.string s) := hmsg.cell rfl
  have m2 : w1.cell? ⟨w.heap.size, 2, none⟩ = some (.slice pa pl pc) := hmsg.cell rfl
  have hcl1 := Lib.hid hcl
  have hmsg1 := Lib.hid hmsg
  have h1 := Lib.hid h
  have hB1' := Lib.hid hB1
  have hbm' := Lib.hid hbm
  clear hcl hmsg h hB1 hbm
  go_quiet (fail)
  go_wp2_with fail
  refine (hO.out w1 hB1'.out _).mono ?_
  rintro e w2 ⟨rfl, rfl⟩
  go_wp2_with fail
  have hclq := Lib.hid (fun q => hcl1.out (w1.drewN q) (below_drawn hB1'.out q))
  have hlast := (hb1.out P0 hP0).lasts j hj
  have hidl : (qs j).last < id := by omega
  replace hlast := Lib.hid hlast
  go_cut [6] from 22 (fun v6 wc => v6 = .int .i64 0 ∧ ∃ P d', W P ∧ Hid (R P wc) ∧ Hid (Box P B wc b tv mb qv D ss (upd qs j d') (upd its j (its j ++ [(id, x)])) full last id) ∧ Hid (Blk wc w.heap.size #[.int .i64 id, .string s, .slice pa pl pc] 31) ∧ Hid (Below B w wc))
  case first =>
    go_region_with (first
      | (go_at_call 16; refine (hclq.out _).mono ?_; rintro e V ⟨hBV, P, hP, hRP, rfl⟩; replace hRP := Lib.hid hRP; have hBV1 : Below w1.heap.size w1 V := (below_drawn (Below.refl _ w1) _).trans hBV; have n0 : V.cell? ⟨w.heap.size, 0, none⟩ = some (.int .i64 id) := (hBV1.cell (p := ⟨w.heap.size, 0, none⟩) hbm'.out).trans m0; have n2 : V.cell? ⟨w.heap.size, 2, none⟩ = some (.slice pa pl pc) := (hBV1.cell (p := ⟨w.heap.size, 2, none⟩) hbm'.out).trans m2; have hbV := Lib.hid ((hb1.out P hP).below hBV1); have hqp := Lib.hid (qd_put (hbV.out.que j hj) id x hidl hlt); replace hBV := Lib.hid hBV; replace hBV1 := Lib.hid hBV1)
      | (go_at_call 15; refine hqp.out.mono ?_; rintro e V2 ⟨rfl, hx⟩; replace hx := Lib.hid hx))
    all_goals
      obtain ⟨d', hd, hp, hl, hr, ho⟩ := hx.out
      have hBx := Lib.hid (hbV.out.step hj hd hp (lm' := id) (by omega) hr ho (by omega))
      have hm2 : Hid (Blk V2 w.heap.size #[.int .i64 id, .string s, .slice pa pl pc] 31) := Lib.hid ((ho.same _ (Nat.lt_of_lt_of_le hbm'.out hBV1.out.size) ((hbV.out.que j hj).not_S ((hmsg1.out.below hBV1.out hbm'.out)) (fun cur e => by cases e) (fun cur e => by cases e))).trans (hmsg1.out.below hBV1.out hbm'.out))
      have hlow : Hid (Below B w V2) := Lib.hid ((hB1'.out.mono hlo).trans ((hBV1.out.mono (Nat.le_trans hlo (Nat.le_of_lt hbm'.out))).trans (ho.below (Nat.le_trans hlo (Nat.le_trans (Nat.le_of_lt hbm'.out) hBV1.out.size)) (fun k hk => by obtain ⟨_, _, _, _, h⟩ := (hbV.out.que j hj).types k hk; exact h))))
      have hR2 := Lib.hid (hR P V V2 hRP.out (fun k cur e => ho.same k (Array.getElem?_eq_some_iff.1 e).1 ((hbV.out.que j hj).not_S e (fun cur e => by cases e) (fun cur e => by cases e))))
      replace hd := Lib.hid hd
      replace ho := Lib.hid ho
      go_wp2_with fail
      go_meet
      case rel => exact ⟨rfl, P, d', hP, hR2, hBx, hm2, hlow⟩
  case rest =>
    obtain ⟨rfl, P, d', hP, hR2, hBx, hm2, hlow⟩ := hcut
    clear c0 c1 c2 c3 c4 m0 m1 m2
    have k0 : wc.cell? ⟨w.heap.size, 0, none⟩ = some (.int .i64 id) := hm2.out.cell rfl
    have k1 : wc.cell? ⟨w.heap.size, 1, none⟩ = some (.string s) := hm2.out.cell rfl
    obtain ⟨e0, e1, e2, e3, e4⟩ := hBx.out.cells
    have f3 := hBx.out.blk.free 3
    have f4 := hBx.out.blk.free 4
    have hlk2 := fun q => look_run (hBx.out.drewN q).map (show s.size ≤ maxLen from hss.out ▸ hBx.out.size j hj) (show ∀ z, D.atKey (keyL s) z = .lit (.int .i64 (j : Int)) from hss.out ▸ hBx.out.nums j hj) false
    have hlk3 : (Instr.lookup 49 (.map (some mb)) (.string s) false).run Try.prog wc.drew = .ok (.int .i64 (j : Int)) wc.drew := hlk2 1
    clear hlk2
    have hWi := Lib.hid (fun V => with_any full (j : Int) hBx.out.fullLt V)
    have hf' : full ||| bitN (j : Int) < 18446744073709551616 := or_lt hBx.out.fullLt (bitN_lt _)
    have hR3 := Lib.hid (fun (v v' : Value) => hR P wc (((wc.setCell ⟨b, 3, none⟩ v).drewN 1).setCell ⟨b, 4, none⟩ v') hR2.out (fun k cur e => (heap_setCell_other _ ⟨b, 4, none⟩ k v' (fun e2 => by have e3 : k = b := e2; subst e3; rw [hBx.out.blk.eq] at e; cases e)).trans (heap_setCell_other _ ⟨b, 3, none⟩ k v (fun e2 => by have e3 : k = b := e2; subst e3; rw [hBx.out.blk.eq] at e; cases e))))
    generalize hfe : full ||| bitN (j : Int) = f' at *
    replace hfe := Lib.hid hfe
    have hfin := Lib.hid (((hBx.out.setFull f' hf').drewN 1).setLast id)
    have hlow2 := Lib.hid (((below_drawn (hlow.out.setCell (p := ⟨b, 3, none⟩) hBx.out.lo (.int .u64 f')) 1)).setCell (p := ⟨b, 4, none⟩) hBx.out.lo (.int .i64 id))
    go_wp2_with fail
    go_region_with (go_at_call 17; refine (hWi.out _).mono ?_; rintro e V3 ⟨rfl, rfl⟩)
    all_goals
      go_wp2_with fail
      go_ret
      exact ⟨rfl, P, d', hP, hR3.out _ _, by rw [hfe.out]; exact hfin.out, hlow2.out⟩
end Go.Proofs.Ytcekipbjimbinaa
