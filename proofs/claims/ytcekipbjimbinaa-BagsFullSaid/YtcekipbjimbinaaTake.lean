/- The queue's Take. -/
import Derived.Test.YtcekipbjimbinaaFind
namespace Go.Proofs.Ytcekipbjimbinaa
open Go.RowKit
variable {P : Pl}

theorem mod_inj {L fr a b : Nat} (hf : fr < L) (ha : a < L) (hb : b < L) (h : (fr + a) % L = (fr + b) % L) : a = b := by
  have e : ∀ c, c < L → (fr + c) % L = if fr + c < L then fr + c else fr + c - L := fun c hc => by
    split
    · next h => exact Nat.mod_eq_of_lt h
    · next h => rw [Nat.mod_eq_sub_mod (by omega), Nat.mod_eq_of_lt (by omega)]
  rw [e a ha, e b hb] at h
  split at h <;> split at h <;> omega
/-- Only these blocks of the old world have changed. -/
structure Only (S : Nat → Prop) (w w' : World) : Prop where
  low : Below 0 w w'
  same : ∀ k, k < w.heap.size → ¬ S k → w'.heap[k]? = w.heap[k]?
theorem Only.refl (S : Nat → Prop) (w : World) : Only S w w := ⟨Below.refl _ _, fun _ _ _ => rfl⟩
theorem Only.trans {S : Nat → Prop} {a b c : World} (h : Only S a b) (h' : Only S b c) : Only S a c :=
  ⟨h.low.trans h'.low, fun k hk hs => (h'.same k (Nat.lt_of_lt_of_le hk h.low.size) hs).trans (h.same k hk hs)⟩
theorem Only.drewN (S : Nat → Prop) (w : World) (q : Nat) : Only S w (w.drewN q) := ⟨below_drawn (Below.refl _ _) q, fun _ _ _ => rfl⟩
theorem Only.setCell {S : Nat → Prop} (w : World) (a : Addr) (v : Value) (h : S a.block) : Only S w (w.setCell a v) :=
  ⟨(Below.refl _ w).setCell (Nat.zero_le _) v, fun _ _ hs => heap_setCell_other _ _ _ _ (fun e => hs (e ▸ h))⟩
theorem Only.below {S : Nat → Prop} {B : Nat} {w w' : World} (h : Only S w w') (hB : B ≤ w.heap.size) (hS : ∀ k, S k → B ≤ k) : Below B w w' :=
  ⟨h.low.1, h.low.2, h.low.3, h.low.4, fun k hk => h.same k (by omega) (fun hs => by have := hS k hs; omega)⟩

theorem Que.put {B : Nat} {w : World} {p : Nat} {rv : Value} {rs : List (Int × Int)} {fr n : Nat} {most last : Int} (h : Que P B w p rv rs fr n most last) {g c : Nat} (hv : rv = .slice (some ⟨g, 0, none⟩) rs.length c) (hgp : g ≠ p) (k : Nat) (a b : Int) :
    Que P B ((w.setCell ⟨g, k * 2, none⟩ (.int .i64 a)).setCell ⟨g, k * 2 + 1, none⟩ (.slice (P.A b) (P.L b) (P.C b))) p rv (rs.set k (a, b)) fr n most last := by
  refine ⟨(h.blk.other (fun e => hgp e.symm) _).other (fun e => hgp e.symm) _, ?_, h.lo, ?_, by rw [List.length_set]; exact h.small, h.most1⟩
  · rw [List.length_set, ← flat_set]
    have ho := h.own
    rw [hv] at ho ⊢
    exact ((ho.stored (k * 2) _).1.stored (k * 2 + 1) _).1
  · rw [List.length_set]
    rcases h.fits with h1 | ⟨h1, h2, h3⟩
    · exact .inl h1
    · exact .inr ⟨h1, h2, by rw [h3]; rfl⟩
theorem Que.gp {B : Nat} {w : World} {p : Nat} {rv : Value} {rs : List (Int × Int)} {fr n : Nat} {most last : Int} (h : Que P B w p rv rs fr n most last) {g c : Nat} (hv : rv = .slice (some ⟨g, 0, none⟩) rs.length c) (hn : 0 < rs.length) : g ≠ p ∧ (∀ j, j < rs.length → w.cell? ⟨g, j * 2, none⟩ = some (.int .i64 (rs.getD j (0, 0)).1) ∧ w.cell? ⟨g, j * 2 + 1, none⟩ = some (.slice (P.A (rs.getD j (0, 0)).2) (P.L (rs.getD j (0, 0)).2) (P.C (rs.getD j (0, 0)).2))) ∧ ∀ o, w.frozen? ⟨g, o, none⟩ = false := by
  have ho := h.own
  rcases ho.2 with ⟨_, h0⟩ | ⟨g1, c1, cur, e, hb, hg, _⟩
  · omega
  · rw [hv] at e ho
    cases e
    refine ⟨?_, fun j hj => ⟨?_, ?_⟩, fun o => ho.frozenAt o⟩
    · intro e
      have := h.blk.eq
      rw [← e, hg] at this
      simp at this
    · rw [ho.cellAt (j * 2) (by omega), flat_id rs j hj]
    · rw [ho.cellAt (j * 2 + 1) (by omega), flat_x rs j hj]
theorem getD_set (rs : List (Int × Int)) (k : Nat) (x : Int × Int) (i : Nat) (hk : k < rs.length) : (rs.set k x).getD i (0, 0) = if i = k then x else rs.getD i (0, 0) := by
  by_cases e : i = k
  · subst e; simp [List.getD, hk]
  · simp [List.getD, e, Ne.symm e]
theorem items_at (rs : List (Int × Int)) (fr n i : Nat) (hi : i < n) : (items rs fr n).getD i (0, 0) = rs.getD ((fr + i) % rs.length) (0, 0) := by simp [items, List.getD, hi]
theorem list_pairs {a b : List (Int × Int)} (hl : a.length = b.length) (h : ∀ i, i < a.length → a.getD i (0, 0) = b.getD i (0, 0)) : a = b := by
  refine List.ext_getElem hl fun i h1 h2 => ?_
  have := h i h1
  simpa [List.getD, h1, h2] using this
/-- What is in when those ahead have moved one place on. -/
theorem take_items {rs rs' : List (Int × Int)} {fr n j : Nat} (hf : fr < rs.length) (hn : n ≤ rs.length) (hj : j < n) (hl : rs'.length = rs.length)
    (h : ∀ b, b < n → rs'.getD ((fr + b) % rs.length) (0, 0) = if 0 < b ∧ b ≤ j then (items rs fr n).getD (b - 1) (0, 0) else (items rs fr n).getD b (0, 0)) :
    items (rs'.set ((fr + 0) % rs.length) (0, 0)) ((fr + 1) % rs.length) (n - 1) = (items rs fr n).eraseIdx j := by
  have hlen : (items rs fr n).length = n := items_length _ _ _
  refine list_pairs (by rw [items_length, List.length_eraseIdx, hlen, if_pos hj]) fun i hi => ?_
  rw [items_length] at hi
  rw [items_at _ _ _ _ hi, List.length_set, hl]
  have e1 : ((fr + 1) % rs.length + i) % rs.length = (fr + (i + 1)) % rs.length := by
    rw [Nat.mod_add_mod]; congr 1; omega
  have hk0 : (fr + 0) % rs.length < rs'.length := by rw [hl]; exact Nat.mod_lt _ (by omega)
  rw [e1, getD_set _ _ _ _ hk0, if_neg (fun e => by have := mod_inj hf (by omega) (by omega) e; omega), h (i + 1) (by omega)]
  have hE : ((items rs fr n).eraseIdx j).getD i (0, 0) = if i < j then (items rs fr n).getD i (0, 0) else (items rs fr n).getD (i + 1) (0, 0) := by
    simp only [List.getD, List.getElem?_eraseIdx]
    split <;> rfl
  rw [hE]
  by_cases hij : i < j
  · rw [if_pos ⟨by omega, by omega⟩, if_pos hij]; rfl
  · rw [if_neg (by omega), if_neg hij]
theorem take_none {B : Nat} {w : World} {p : Nat} {rv : Value} {rs : List (Int × Int)} {fr n : Nat} {most last : Int} (h : Que P B w p rv rs fr n most last) (hs : Rise (idAt (items rs fr n)) n) (x : Int) (hx : ∀ k, k < n → idAt (items rs fr n) k ≠ x) :
    Calls Try.prog 23 #[.pointer (some ⟨p, 0, none⟩), .int .i64 x] w fun e w' => e = .returned (.tuple #[.slice none 0 0, .int .i64 121]) ∧ ∃ q, w' = w.drewN q := by
  have hF := Lib.hid (find_any h hs x)
  replace h := Lib.hid h
  replace hs := Lib.hid hs
  replace hx := Lib.hid hx
  go_enter Try.func23, Try.ntmps23
  go_wp2_with fail
  refine hF.out.mono ?_
  rintro e w' ⟨⟨k, hk, he, rfl⟩ | ⟨_, rfl⟩, q, rfl⟩
  · exact absurd he (hx.out k hk)
  go_wp2_with fail
  go_ret2
  exact ⟨rfl, _, rfl⟩
theorem take_any {B : Nat} {w : World} {p : Nat} {rv : Value} {rs : List (Int × Int)} {fr n : Nat} {most last : Int} (h : Que P B w p rv rs fr n most last) (hs : Rise (idAt (items rs fr n)) n) (j : Nat) (hj : j < n) :
    Calls Try.prog 23 #[.pointer (some ⟨p, 0, none⟩), .int .i64 (idAt (items rs fr n) j)] w fun e w' => e = .returned (.tuple #[.slice (P.A ((items rs fr n).getD j (0, 0)).2) (P.L ((items rs fr n).getD j (0, 0)).2) (P.C ((items rs fr n).getD j (0, 0)).2), .int .i64 0]) ∧
      ∃ rs' fr', Que P B w' p rv rs' fr' (n - 1) most last ∧ items rs' fr' (n - 1) = (items rs fr n).eraseIdx j ∧ rs'.length = rs.length ∧ Only (fun k => k = p ∨ rv.ownBlock = some k) w w' := by
  have hF := Lib.hid (find_any h hs (idAt (items rs fr n) j))
  obtain ⟨g, c, k, hv, hf, hj2, hk, hkl, c1, c2⟩ := h.place j hj
  have hat0 := Lib.hid (fun q => qat_any (h.drewN q) hv hf j hj2 k hk)
  replace h := Lib.hid h
  have hs' := Lib.hid hs
  have c2' : ∀ q, (w.drewN q).cell? ⟨g, k * 2 + 1, none⟩ = _ := fun _ => c2
  have hsame : ∀ i, i < n → idAt (items rs fr n) i = idAt (items rs fr n) j → i = j := fun i hi e => by
    rcases Nat.lt_trichotomy i j with h1 | h1 | h1
    · have := hs i j h1 hj; omega
    · exact h1
    · have := hs j i h1 hi; omega
  replace hsame := Lib.hid hsame
  clear hs c1 hk
  generalize ((items rs fr n).getD j (0, 0)).2 = y at *
  go_enter Try.func23, Try.ntmps23
  go_wp2_with fail
  refine hF.out.mono ?_
  rintro e w' ⟨hor, q, rfl⟩
  obtain ⟨i, hi, he, rfl⟩ : ∃ i, i < n ∧ idAt (items rs fr n) i = idAt (items rs fr n) j ∧ e = .returned (.tuple #[.int .i64 (i : Nat), .bool true]) := by
    rcases hor with h1 | ⟨hno, _⟩
    · exact h1
    · exact absurd rfl (hno j hj)
  clear hor
  obtain rfl := hsame.out i hi he
  generalize idAt (items rs fr n) i = x at *
  clear hF he hsame hi
  go_wp2_with fail
  refine (hat0.out q).mono ?_
  rintro e w' ⟨rfl, q2, rfl⟩
  go_wp2_with fail
  clear hat0 c2 c2'
  have hq : Hid (Que P B (w.drewN (q + q2)) p rv rs fr n most last) := Lib.hid (h.out.drewN _)
  have ho : Hid (Only (fun k => k = p ∨ rv.ownBlock = some k) w (w.drewN (q + q2))) := Lib.hid (Only.drewN _ _ _)
  have hgS : rv.ownBlock = some g := by rw [hv]; rfl
  have hv0 := Lib.hid hv
  clear hv
  generalize w.drewN (q + q2) = w1 at *
  go_loopw [6] (fun s wr => ∃ (a : Nat) (rs' : List (Int × Int)), a ≤ i ∧ s = .int .i64 a ∧ Que P B wr p rv rs' fr n most last ∧ rs'.length = rs.length ∧ Only (fun k => k = p ∨ rv.ownBlock = some k) w wr ∧ ∀ b, b < n → rs'.getD ((fr + b) % rs.length) (0, 0) = if a < b ∧ b ≤ i then (items rs fr n).getD (b - 1) (0, 0) else (items rs fr n).getD b (0, 0)) (fun s _ => (intOf s).toNat)
  case atStart => exact ⟨i, rs, by omega, rfl, hq.out, rfl, ho.out, fun b hb => by rw [if_neg (by omega), items_at _ _ _ _ hb]⟩
  case round =>
    clear hq ho
    obtain ⟨a, rs', ha, rfl, hQ, hl, hO, hpos⟩ := hrel
    have hin : i ≤ 8796093022208 := by have := h.out.small; omega
    have hv2 : rv = .slice (some ⟨g, 0, none⟩) rs'.length c := by rw [hl]; exact hv0.out
    obtain ⟨hgp, hcells, hfz⟩ := hQ.gp hv2 (by omega)
    by_cases ha0 : 0 < a
    · have k1 : (fr + a) % rs.length < rs.length := Nat.mod_lt _ (by omega)
      have k2 : (fr + (a - 1)) % rs.length < rs.length := Nat.mod_lt _ (by omega)
      have hat1 := Lib.hid (qat_any hQ hv2 (by omega) a (by omega) ((fr + a) % rs.length) (by rw [hl]))
      have hat2 := fun q => qat_any (hQ.drewN q) hv2 (by omega) (a - 1) (by omega) ((fr + (a - 1)) % rs.length) (by rw [hl])
      rw [show (((a - 1 : Nat)) : Int) = (a : Int) - 1 by omega] at hat2
      replace hat2 := Lib.hid hat2
      obtain ⟨cA, cB⟩ := hcells ((fr + (a - 1)) % rs.length) (by rw [hl]; exact k2)
      obtain ⟨cC, cD⟩ := hcells ((fr + a) % rs.length) (by rw [hl]; exact k1)
      have hput := fun q => (hQ.drewN q).put hv2 hgp ((fr + a) % rs.length) (rs'.getD ((fr + (a - 1)) % rs.length) (0, 0)).1 (rs'.getD ((fr + (a - 1)) % rs.length) (0, 0)).2
      have hnew : ∀ b, b < n → (rs'.set ((fr + a) % rs.length) ((rs'.getD ((fr + (a - 1)) % rs.length) (0, 0)).1, (rs'.getD ((fr + (a - 1)) % rs.length) (0, 0)).2)).getD ((fr + b) % rs.length) (0, 0) = if a - 1 < b ∧ b ≤ i then (items rs fr n).getD (b - 1) (0, 0) else (items rs fr n).getD b (0, 0) := fun b hb => by
        rw [getD_set _ _ _ _ (by rw [hl]; exact k1)]
        by_cases e : b = a
        · subst e
          rw [if_pos rfl, if_pos ⟨by omega, ha⟩]
          have := hpos (b - 1) (by omega)
          rw [if_neg (by omega)] at this
          exact this
        · rw [if_neg (fun e2 => e (mod_inj hf (by have := h.out.ring (by omega); omega) (by omega) e2)), hpos b hb]
          by_cases e3 : a < b ∧ b ≤ i
          · rw [if_pos e3, if_pos ⟨by omega, e3.2⟩]
          · rw [if_neg e3, if_neg (by omega)]
      replace hput := Lib.hid hput
      replace hnew := Lib.hid hnew
      replace hQ := Lib.hid hQ
      replace hpos := Lib.hid hpos
      replace hO := Lib.hid hO
      clear hcells
      generalize (fr + a) % rs.length = ka at *
      generalize (fr + (a - 1)) % rs.length = kb at *
      generalize (rs'.getD kb (0, 0)).1 = va at *
      generalize (rs'.getD kb (0, 0)).2 = vb at *
      go_wp2_with fail
      refine hat1.out.mono ?_
      rintro e w2 ⟨rfl, q1, rfl⟩
      go_wp2_with fail
      refine (hat2.out q1).mono ?_
      rintro e w2 ⟨rfl, q2, rfl⟩
      go_wp2_with fail
      go_roundw
      case rel => exact ⟨a - 1, _, by omega, by go_num, hput.out _, by rw [List.length_set]; exact hl, ((hO.out.trans (Only.drewN _ _ _)).trans (Only.setCell _ _ _ (.inr hgS))).trans (Only.setCell _ _ _ (.inr hgS)), hnew.out⟩
      case measure => simp [intOf]; omega
    · obtain rfl : a = 0 := by omega
      have k0 : (fr + 0) % rs.length < rs.length := Nat.mod_lt _ (by omega)
      have hat1 := qat_any hQ hv2 (by omega) 0 (by omega) ((fr + 0) % rs.length) (by rw [hl])
      replace hat1 := Lib.hid hat1
      have hfz1 := hfz ((fr + 0) % rs.length * 2)
      have hfz2 := hfz ((fr + 0) % rs.length * 2 + 1)
      obtain ⟨cC, cD⟩ := hcells ((fr + 0) % rs.length) (by rw [hl]; exact k0)
      have hput := fun q => (hQ.drewN q).put hv2 hgp ((fr + 0) % rs.length) 0 0
      simp only [P.z.1, P.z.2.1, P.z.2.2] at hput
      have hit := take_items hf (by have := h.out.ring (by omega); omega) hj hl hpos
      have hcl := hQ.cells
      have hL63 := h.out.small
      replace hput := Lib.hid hput
      replace hit := Lib.hid hit
      replace hQ := Lib.hid hQ
      replace hpos := Lib.hid hpos
      replace hO := Lib.hid hO
      clear hcells
      generalize (rs'.getD ((fr + 0) % rs.length) (0, 0)).1 = va at *
      generalize (rs'.getD ((fr + 0) % rs.length) (0, 0)).2 = vb at *
      generalize (fr + 0) % rs.length = ka at *
      go_wp2_with fail
      refine hat1.out.mono ?_
      rintro e w2 ⟨rfl, q1, rfl⟩
      go_wp2_with fail
      have hQ3 := hput.out q1
      have hO3 := ((hO.out.trans (Only.drewN _ _ q1)).trans (Only.setCell _ ⟨g, ka * 2, none⟩ (.int .i64 0) (.inr hgS))).trans (Only.setCell _ ⟨g, ka * 2 + 1, none⟩ (.slice none 0 0) (.inr hgS))
      clear cC cD hfz1 hfz2 hfz hcl
      generalize (((wr.drewN q1).setCell ⟨g, ka * 2, none⟩ (.int .i64 0)).setCell ⟨g, ka * 2 + 1, none⟩ (.slice none 0 0)) = w3 at *
      obtain ⟨d0, d1, d2, d3, d4⟩ := hQ3.cells
      rw [hv0.out] at d0
      have f1 := hQ3.blk.free 1
      have f2 := hQ3.blk.free 2
      have hw : IntKind.i64.wrap ((fr : Int) + 1) = ((fr + 1 : Nat) : Int) := by
        rw [IntWalk.i64_in _ (by omega)]; omega
      have ht : ((fr + 1 : Nat) : Int).tmod (rs.length : Int) = (((fr + 1) % rs.length : Nat) : Int) := by
        rw [Int.tmod_eq_emod_of_nonneg (by omega)]; omega
      have hL0 : (rs.length : Int) ≠ 0 := by omega
      have hL1 : ((rs.length : Int) == 0) = false := by rw [beq_eq_false_iff_ne]; omega
      have hm1 : (fr + 1) % rs.length < rs.length := Nat.mod_lt _ (by omega)
      have hfit2 : IntKind.i64.wrap (((fr + 1) % rs.length : Nat) : Int) = (((fr + 1) % rs.length : Nat) : Int) := IntWalk.i64_in _ (by omega)
      have hend : ∀ q, Que P B (((w3.drewN q).setCell ⟨p, 1, none⟩ (.int .i64 ((fr + 1) % rs.length : Nat))).setCell ⟨p, 2, none⟩ (.int .i64 ((n - 1 : Nat) : Int))) p rv (rs'.set ka (0, 0)) ((fr + 1) % rs.length) (n - 1) most last := fun q => by
        refine ⟨((hQ3.drewN q).blk.set 1 _).set 2 _, ?_, hQ3.lo, .inl ⟨by rw [List.length_set, hl]; exact hm1, ?_⟩, hQ3.small, by have := hQ3.most1; omega⟩
        · refine ((hQ3.drewN q).own.kept (grownBy_setCell_any _ _ _) (.inr ?_)).kept (grownBy_setCell_any _ _ _) (.inr ?_) <;> (rw [hgS]; simp; exact hgp)
        · rw [List.length_set, hl]
          have := h.out.ring (by omega)
          omega
      replace hend := Lib.hid hend
      replace hQ3 := Lib.hid hQ3
      replace hO3 := Lib.hid hO3
      replace hv0 := Lib.hid hv0.out
      clear hv2
      generalize (fr + 1) % rs.length = fr2 at *
      generalize fr + 1 = s2 at *
      have hwn : wrap64 ((n : Int) - 1) = ((n - 1 : Nat) : Int) := by
        have := h.out.ring (by omega)
        unfold wrap64; omega
      replace hwn := Lib.hid hwn
      go_region
      go_wp2_with fail
      rw [hwn.out]
      go_ret2
      exact ⟨rfl, _, _, hend.out 1, hit.out, by rw [List.length_set]; exact hl, ((hO3.out.trans (Only.setCell _ ⟨p, 1, none⟩ _ (.inl rfl))).trans (Only.setCell _ ⟨p, 2, none⟩ _ (.inl rfl))).trans (Only.drewN _ _ 1)⟩
end Go.Proofs.Ytcekipbjimbinaa
