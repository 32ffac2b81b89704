/- The walk of BagsFull: a tag takes as many messages as it may, and no more. -/
import Derived.Test.YtcekipbjimbinaaArgs
import Derived.Test.YtcekipbjimbinaaBoxTake
import Derived.Test.YtcekipbjimbinaaBoxFull
import Derived.LoopTactic
import Derived.Deep.CutRange
import Derived.Deep.RegionWith
namespace Go.Proofs.Ytcekipbjimbinaa
open Go.RowKit Go.Shelf Go.WideShapes

def msgs (first : Int) (i : Nat) : List (Int × Int) := (List.range i).map fun k : Nat => (first + (k : Int), (0 : Int))
theorem msgs_succ (first : Int) (i : Nat) : msgs first (i + 1) = msgs first i ++ [(first + (i : Int), 0)] := by
  simp [msgs, List.range_succ]
theorem msgs_len (first : Int) (i : Nat) : (msgs first i).length = i := by simp [msgs]
theorem upd_upd {α : Type} (f : Nat → α) (i : Nat) (x y : α) : upd (upd f i x) i y = upd f i y := by
  funext j
  by_cases e : j = i
  · subst e; rw [upd_same, upd_same]
  · rw [upd_other _ _ e, upd_other _ _ e, upd_other _ _ e]
theorem upd_nil {K : Nat} : (fun _ => ([] : List (Int × Int))) = upd (fun _ => []) K [] := by
  funext j
  by_cases e : j = K
  · subst e; rw [upd_same]
  · rw [upd_other _ _ e]
/-- The mailbox after some puts at one tag. -/
def Puts (w0 : World) (N : Nat) (b : Nat) (tv : Value) (mb : Nat) (qv : Value) (D : DataW Unit) (ss : List ByteArray) (its : Nat → List (Int × Int)) (next : Int) (w : World) : Prop :=
  ∃ qs full last, Box Pl.zero N w b tv mb qv D ss qs its full last last ∧ last < next ∧ Below w0.heap.size w0 w

set_option maxRecDepth 100000 in
set_option maxHeartbeats 4000000 in
theorem bagsFull_any (v : Value) (ss : List ByteArray) (which first : Int) (w : World) (hS : StrArg w v ss) (hl : ss.length * 16 ≤ 140737488351232) (hz : ∀ s ∈ ss, s.size ≤ maxLen) : Calls Try.prog 3 #[v, .int .i64 which, .int .i64 first] w fun e w' => e = .returned (.bool true) ∧ Below w.heap.size w w' := by
  have hA := Lib.hid (awake_any w)
  obtain ⟨va, vc, rfl⟩ := hS.len
  replace hS := Lib.hid hS
  replace hl := Lib.hid hl
  replace hz := Lib.hid hz
  go_enter Try.func3, Try.ntmps3
  go_wp2_with fail
  refine hA.out.mono ?_
  rintro e w1 ⟨rfl, hB1⟩
  have hap := Lib.hid (app_strs (hS.out.below hB1) hl.out)
  replace hB1 := Lib.hid hB1
  go_wp2_with (at_builtin; refine wpList_append_known _ rfl (.tmp 17) (.tmp 18) 22 rfl _ _ rfl rfl _ hap.out ?_; rintro v2 w2 ⟨ho, hB2⟩; have hN := Lib.hid (box_new ho hz.out); replace ho := Lib.hid ho; replace hB2 := Lib.hid hB2)
  refine hN.out.mono ?_
  rintro e w3 ⟨hB3, ⟨rfl, _⟩ | ⟨h64, b, tv, mb, qv, D, qs, rfl, hbox⟩⟩
  · have hend := Lib.hid (hB1.out.trans ((hB2.out.trans (hB3.mono hB2.out.size)).mono hB1.out.size))
    replace hB3 := Lib.hid hB3
    go_wp2_with fail
    go_ret
    exact ⟨rfl, hend.out⟩
  have hend := Lib.hid (hB1.out.trans ((hB2.out.trans (hB3.mono hB2.out.size)).mono hB1.out.size))
  have hsz := Lib.hid (Nat.le_trans hB1.out.size hB2.out.size)
  have hb := Lib.hid (hbox Pl.zero)
  clear hbox hN hap hA
  clear hB1 hB2 hB3 ho
  generalize w2.heap.size = N2 at *
  replace h64 := Lib.hid h64
  by_cases hg : ss.length = 0 ∨ first < 0 ∨ 1099511627776 < first
  · obtain ⟨b1, h1⟩ : ∃ b, ((ss.length : Int) == 0) = b := ⟨_, rfl⟩
    obtain ⟨b2, h2⟩ : ∃ b, decide (first < 0) = b := ⟨_, rfl⟩
    obtain ⟨b3, h3⟩ : ∃ b, decide (1099511627776 < first) = b := ⟨_, rfl⟩
    have hor : (b1 || b2 || b3) = true := by
      rw [← h1, ← h2, ← h3]
      rcases hg with h | h | h
      · rw [h]; rfl
      · rw [decide_eq_true h, Bool.or_true, Bool.true_or]
      · rw [decide_eq_true h, Bool.or_true]
    clear hg
    cases b1 <;> cases b2 <;> cases b3 <;> first | (exact absurd hor (by decide)) | skip
    all_goals
      clear hor
      go_wp2_with fail
      go_ret
      exact ⟨rfl, hend.out⟩
  have hn0 : 0 < ss.length := by omega
  have h1 : ((ss.length : Int) == 0) = false := by rw [beq_eq_false_iff_ne]; omega
  have h2 : decide (first < 0) = false := by simp; omega
  have h3 : decide (1099511627776 < first) = false := by simp; omega
  have hf : Hid (0 ≤ first ∧ first ≤ 1099511627776) := Lib.hid (by omega)
  clear hg
  go_upto_if 43 with (fail)
  go_cut [9] from 14 (fun v9 wc => wc = w3 ∧ ∃ K : Nat, v9 = .int .i64 K ∧ K < ss.length)
  case first =>
    by_cases hk : which.tmod ss.length < 0
    · have hK : ∃ K : Nat, (which.tmod ss.length + (ss.length : Int)) = (K : Int) ∧ K < ss.length := by
        have := Int.lt_tmod_of_pos which (show (0 : Int) < ss.length by omega)
        exact ⟨(which.tmod ss.length + (ss.length : Int)).toNat, by omega, by omega⟩
      obtain ⟨K, hK, hKn⟩ := hK
      have hwr : IntKind.i64.wrap (which.tmod ss.length + (ss.length : Int)) = (K : Int) := by
        have := h64.out
        rw [hK, IntWalk.i64_in _ (by omega)]
      generalize which.tmod ss.length = kk at *
      go_wp2_with fail
      go_meet
      case rel => exact ⟨rfl, K, congrArg (Value.int .i64) (IntWalk.wrap64_in (K : Int) (by have := h64.out; omega)), hKn⟩
    · have hK : ∃ K : Nat, which.tmod ss.length = (K : Int) ∧ K < ss.length := by
        have := Int.tmod_lt_of_pos which (show (0 : Int) < ss.length by omega)
        exact ⟨(which.tmod ss.length).toNat, by omega, by omega⟩
      obtain ⟨K, hK, hKn⟩ := hK
      generalize which.tmod ss.length = kk at *
      subst hK
      have tk : decide ((K : Int) < 0) = false := by simp
      go_wp2_with fail
      go_meet
      case rel => exact ⟨rfl, K, rfl, hKn⟩
  case rest =>
    obtain ⟨rfl, K, rfl, hK⟩ := hcut
    clear h1 h2 h3
    have hput : Hid (Puts w N2 b tv mb qv D ss (upd (fun _ => []) K (msgs first 0)) (first + ((0 : Nat) : Int)) wc) := Lib.hid ⟨qs, 0, -1, by rw [show msgs first 0 = [] from rfl, ← upd_nil]; exact hb.out, by have := hf.out; omega, hend.out⟩
    clear hend hb h64
    go_wp2_with fail
    go_loopw [10, 11] (fun v10 v11 wr => ∃ i : Nat, v10 = .int .i64 (first + (i : Int)) ∧ v11 = .int .i64 i ∧ Hid (i ≤ 12) ∧ Hid (Puts w N2 b tv mb qv D ss (upd (fun _ => []) K (msgs first i)) (first + (i : Int)) wr)) (fun _ v11 _ => 12 - (intOf v11).toNat)
    case atStart => exact ⟨0, by go_num, rfl, Lib.hid (by omega), hput⟩
    case round =>
      clear hput
      obtain ⟨i, rfl, rfl, hi, hput⟩ := hrel
      obtain ⟨qs, full, last, hb, hlast, hlow⟩ := hput.out
      replace hb := Lib.hid hb
      replace hlast := Lib.hid hlast
      replace hlow := Lib.hid hlow
      obtain ⟨bs, off, rfl, hcs⟩ := (hS.out.below hlow.out).at hn0
      have hck := hcs K hK
      clear hcs
      by_cases hi12 : i < 12
      · have hP := Lib.hid (box_put_nil hb.out K hK (first + (i : Int)) hlast.out (by rw [upd_same, msgs_len]; exact hi12))
        generalize ss.getD K ByteArray.empty = s at *
        go_wp2_with fail
        refine hP.out.mono ?_
        rintro e w4 ⟨rfl, d', f', hb4, hB4⟩
        rw [upd_same, upd_upd, ← msgs_succ] at hb4
        have hput4 : Hid (Puts w N2 b tv mb qv D ss (upd (fun _ => []) K (msgs first (i + 1))) (first + ((i + 1 : Nat) : Int)) w4) := Lib.hid ⟨_, _, _, hb4, by omega, hlow.out.trans (hB4.mono hsz.out)⟩
        clear hb4 hB4
        have hwi : IntKind.i64.wrap ((i : Int) + 1) = ((i + 1 : Nat) : Int) := by
          rw [IntWalk.i64_in _ (by omega)]; omega
        have hwf : IntKind.i64.wrap (first + (i : Int) + 1) = first + ((i + 1 : Nat) : Int) := by
          have := hf.out
          rw [IntWalk.i64_in _ (by omega)]; omega
        go_wp2_with fail
        refine ⟨⟨i + 1, congrArg (Value.int .i64) (by omega), congrArg (Value.int .i64) (by omega), Lib.hid (by omega), hput4⟩, ?_⟩
        simp [intOf]; omega
      · obtain rfl : i = 12 := by have := hi.out; omega
        have hfull := Lib.hid (box_full hb.out K hK (first + ((12 : Nat) : Int)) hlast.out (by rw [upd_same, msgs_len]))
        have hLen := Lib.hid (fun W (hB : Below wr.heap.size wr W) => box_len (hb.out.below hB) K hK)
        rw [upd_same, msgs_len] at hLen
        generalize hs : ss.getD K ByteArray.empty = s at *
        replace hs := Lib.hid hs
        go_wp2_with fail
        refine hfull.out.mono ?_
        rintro e w4 ⟨rfl, hB4⟩
        have hck4 := (hB4.cell (p := ⟨bs, off + K, none⟩) (World.block_lt_of_cell? _ _ hck)).trans hck
        have hLen4 := Lib.hid (hLen.out _ hB4)
        replace hB4 := Lib.hid hB4
        go_wp2_with fail
        refine hLen4.out.mono ?_
        rintro e w5 ⟨rfl, rfl⟩
        have hb4 := Lib.hid (hb.out.below hB4.out)
        have hlow4 := Lib.hid (hlow.out.trans (hB4.out.mono hlow.out.size))
        clear hfull hLen hLen4 hput hB4 hck hb hlow
        have hK9 : Hid (∀ W, Below w.heap.size w W → ∀ j, j < ss.length → W.cell? ⟨bs, off + j, none⟩ = some (.string (ss.getD j ByteArray.empty))) := Lib.hid (fun W hB => by
          obtain ⟨bs', off', e, hcs⟩ := (hS.out.below hB).at hn0
          cases e
          exact hcs)
        by_cases hn1 : 1 < ss.length
        case' pos =>
          obtain ⟨J, hJ⟩ : ∃ J, J = (K + 1) % ss.length := ⟨_, rfl⟩
          have hJn : J < ss.length := by rw [hJ]; exact Nat.mod_lt _ hn0
          have hJK : J ≠ K := by
            rw [hJ]
            rcases Nat.lt_or_ge (K + 1) ss.length with h | h
            · rw [Nat.mod_eq_of_lt h]; omega
            · rw [show K + 1 = ss.length by omega, Nat.mod_self]; omega
          have tin : 0 ≤ ((K : Int) + 1) % (ss.length : Int) ∧ ((K : Int) + 1) % (ss.length : Int) < (ss.length : Int) := ⟨Int.emod_nonneg _ (by omega), Int.emod_lt_of_pos _ (by omega)⟩
          have hwk : IntKind.i64.wrap ((K : Int) + 1) = ((K + 1 : Nat) : Int) := by
            have := hl.out
            rw [IntWalk.i64_in _ (by omega)]; omega
          have hP := Lib.hid (box_put_nil hb4.out J hJn (first + ((12 : Nat) : Int)) hlast.out (by rw [upd_other _ _ hJK]; decide))
          have hcJ := hK9.out _ hlow4.out J hJn
          generalize hsJ : ss.getD J ByteArray.empty = sJ at *
          replace hsJ := Lib.hid hsJ
          rw [hJ] at hcJ
          have tn : decide (1 < (ss.length : Int)) = true := by simp; omega
          replace hJ := Lib.hid hJ
          replace hJK := Lib.hid hJK
          go_wp2_with fail
          refine hP.out.mono ?_
          rintro e w6 ⟨rfl, d', f', hb6, hB6⟩
          rw [upd_other _ _ hJK.out] at hb6
          have hb6 : Hid (∃ its, its K = msgs first 12 ∧ (∀ i, i < K → ∀ m, m < (its i).length → idAt (its i) m ≠ first) ∧ Puts w N2 b tv mb qv D ss its (first + 13) w6) := Lib.hid ⟨_, by rw [upd_other _ _ hJK.out.symm, upd_same], fun i hi m hm => by
            by_cases e : i = J
            · subst e
              rw [upd_same] at hm ⊢
              simp at hm
              subst hm
              simp [idAt]
              omega
            · rw [upd_other _ _ e, upd_other _ _ (by omega)] at hm
              exact absurd hm (by simp), _, _, _, hb6, by omega, hlow4.out.trans (hB6.mono hsz.out)⟩
          clear hB6 hP hcJ hb4 hlow4 hck4
          go_wp2_with fail
          clear tin hwk tn hsJ hJK hJ
        case' neg =>
          have tn : decide (1 < (ss.length : Int)) = false := by simp; omega
          have hb6 : Hid (∃ its, its K = msgs first 12 ∧ (∀ i, i < K → ∀ m, m < (its i).length → idAt (its i) m ≠ first) ∧ Puts w N2 b tv mb qv D ss its (first + 13) w5) := Lib.hid ⟨_, by rw [upd_same], fun i hi m hm => by
            rw [upd_other _ _ (by omega)] at hm
            exact absurd hm (by simp), _, _, _, hb4.out, by have := hlast.out; omega, hlow4.out⟩
          clear hb4 hlow4 hck4
          go_wp2_with fail
          clear tn
          obtain ⟨w6, hw6⟩ : ∃ W, W = w5 := ⟨_, rfl⟩
          subst hw6
        all_goals
          obtain ⟨its, hIK, hno, qs6, full6, last6, hb6, hl6, hlow6⟩ := hb6.out
          have hB7 : Below w6.heap.size w6 (w6.alloc (.cells #[.int .i64 first] 3)) := (Below.refl _ w6).alloc (Nat.le_refl _) _
          have hT := Lib.hid (box_take (hb6.below hB7) K 0 hK (by rw [hIK, msgs_len]; decide) first (by rw [hIK]; simp [idAt, msgs]) (by rw [hIK]; simp [msgs]) (by rw [hIK, msgs_len]; decide) hno _ (Blk.new w6 #[.int .i64 first] 3))
          have hlow7 := Lib.hid (hlow6.trans (hB7.mono hlow6.size))
          clear hb6
          refine hT.out.mono ?_
          rintro e w8 ⟨gm, cm, d8, rfl, hcm, hb8, hB8⟩
          rw [hIK] at hb8
          have hlow8 := hlow7.out.trans (hB8.mono hsz.out)
          have hck8 := hK9.out _ hlow8 K hK
          have hP8 := box_put_nil hb8 K hK (first + 13) hl6 (by rw [upd_same]; simp [msgs])
          rw [hs.out] at hck8 hP8
          have hwf : IntKind.i64.wrap (first + 12 + 1) = first + 13 := by
            have := hf.out
            rw [IntWalk.i64_in _ (by omega)]; omega
          have hwg : IntKind.i64.wrap (first + 12 + 2) = first + 14 := by
            have := hf.out
            rw [IntWalk.i64_in _ (by omega)]; omega
          have teq : (first == first) = true := beq_self_eq_true _
          replace hb8 := Lib.hid hb8
          replace hP8 := Lib.hid hP8
          replace hlow8 := Lib.hid hlow8
          replace hIK := Lib.hid hIK
          replace hno := Lib.hid hno
          replace hB7 := Lib.hid hB7
          replace hB8 := Lib.hid hB8
          replace hl6 := Lib.hid hl6
          replace hlow6 := Lib.hid hlow6
          clear hT
          go_wp2_with fail
          refine hP8.out.mono ?_
          rintro e w9 ⟨rfl, d9, f9, hb9, hB9⟩
          have hlow9 := hlow8.out.trans (hB9.mono hsz.out)
          have hck9 := hK9.out _ hlow9 K hK
          have hF9 := box_full hb9 K hK (first + 14) (by omega) (by rw [upd_same, upd_same]; simp [msgs])
          rw [hs.out] at hck9 hF9
          replace hF9 := Lib.hid hF9
          replace hlow9 := Lib.hid hlow9
          replace hb9 := Lib.hid hb9
          replace hB9 := Lib.hid hB9
          clear hP8 hck8 hb8
          go_wp2_with fail
          refine hF9.out.mono ?_
          rintro e w10 ⟨rfl, hB10⟩
          have hlow10 := Lib.hid (hlow9.out.trans (hB10.mono hlow9.out.size))
          replace hB10 := Lib.hid hB10
          go_wp2_with fail
          go_ret
          exact ⟨rfl, hlow10.out⟩
end Go.Proofs.Ytcekipbjimbinaa
