/- The reference's rows of digits: cut, together. -/
import Derived.Test.YtacmheeodhjlbaaLess
namespace Go.Proofs.Ytacmheeodhjlbaa
open Go.RowKit Go.WideShapes

def slLen : Value → Nat
  | .slice _ n _ => n
  | _ => 0
theorem own_same (va : Option Addr) (n c k : Nat) : ∀ g, (Value.slice va k c).ownBlock = some g → (Value.slice va n c).ownBlock = some g := by
  intro g h
  cases va
  · cases h
  · exact h
/-- A row that lies in new memory. -/
def Fresh (B : Nat) (v : Value) : Prop := ∀ g, v.ownBlock = some g → B ≤ g
theorem Fresh.own {w : World} {base : Nat} {e : TypeId} {size : Nat} {v : Value} {n : Nat} {xs : List Value} (h : w.ownsRow base e size v n xs) : Fresh base v := fun g hg => (h.lt g hg).1
theorem Fresh.mono {B B' : Nat} {v : Value} (h : Fresh B v) (hb : B' ≤ B) : Fresh B' v := fun g hg => Nat.le_trans hb (h g hg)
theorem IntsAt.setCell {w : World} {v : Value} {l : List Int} (h : IntsAt w v l) {B : Nat} (hf : Fresh B v) {p : Addr} (hp : p.block < B) (u : Value) : IntsAt (w.setCell p u) v l := by
  rcases h with h | ⟨b, off, c, rfl, hb, hc⟩
  · exact .inl h
  · have hne : b ≠ p.block := by have := hf b rfl; omega
    refine .inr ⟨b, off, c, rfl, ⟨by simpa [World.setCell] using hb.1, hb.2⟩, fun i hi => ?_⟩
    rw [World.cell?_of_block (w := w) (heap_setCell_other w p b u hne)]
    exact hc i hi
theorem IntsAt.take {w : World} {a : Option Addr} {n c : Nat} {l : List Int} (h : IntsAt w (.slice a n c) l) (k : Nat) (hk : k ≤ l.length) : IntsAt w (.slice a k c) (l.take k) := by
  rcases h with ⟨rfl, a', c', e⟩ | ⟨b, off, c', e, hb, hc⟩
  · cases e
    obtain rfl : k = 0 := by simpa using hk
    exact .inl ⟨by simp, _, _, rfl⟩
  · cases e
    have hl : (l.take k).length = k := by rw [List.length_take]; omega
    refine .inr ⟨b, off, c, by rw [hl], ⟨hb.1, by omega⟩, fun i hi => ?_⟩
    rw [hl] at hi
    rw [hc i (by omega)]
    congr 2
    rw [List.getD_eq_getElem?_getD, List.getD_eq_getElem?_getD, List.getElem?_take_of_lt hi]
theorem Is.take {l : List Int} {n : Nat} (h : Is l n) (k : Nat) (hk : k ≤ l.length) (hn : n < 10 ^ k) : Is (l.take k) n := by
  have hl : (l.take k).length = k := by rw [List.length_take]; omega
  refine ⟨by rw [hl]; exact hn, fun i hi => ?_⟩
  rw [hl] at hi
  rw [← h.get i, List.getD_eq_getElem?_getD, List.getD_eq_getElem?_getD, List.getElem?_take_of_lt hi]
set_option maxRecDepth 100000 in
set_option maxHeartbeats 4000000 in
theorem cut_any (l : List Int) (n : Nat) (hl : Is l n) (hb : l.length ≤ 17592186044416) (v : Value) (w : World) (hv : IntsAt w v l) : Calls Try.prog 45 #[v] w fun e w' => ∃ u, e = .returned u ∧ IntsAt w' u (digs n) ∧ (∀ g, u.ownBlock = some g → v.ownBlock = some g) ∧ ∃ q, w' = w.drewN q := by
  obtain ⟨va, vc, rfl⟩ := hv.len
  have hat := Lib.hid (fun hp => hv.at hp)
  have hcap := hv.cap.2
  have hfin : ∀ k, k ≤ l.length → n < 10 ^ k → k = (digs n).length → IntsAt w (.slice va k vc) (digs n) := fun k h1 h2 h3 => by
    have := hv.take k h1
    rwa [(hl.take k h1 h2).eq_digs (by rw [List.length_take]; omega)] at this
  have hget := Lib.hid (hl.get)
  have hlt0 := Lib.hid (digs_lt n)
  have hlen := Lib.hid (fun k h => digs_len (n := n) (N := k) h)
  have htop := Lib.hid hl.1
  replace hfin := Lib.hid hfin
  have hob := Lib.hid (fun k => own_same va l.length vc k)
  clear hv hl
  generalize hL : l.length = L at *
  replace hL := Lib.hid hL
  go_enter Try.func45, Try.ntmps45
  go_wp2_with fail
  go_loopw [0] (fun v0 wr => ∃ k : Nat, v0 = .slice va k vc ∧ k ≤ L ∧ Hid (n < 10 ^ k) ∧ ∃ q, wr = w.drewN q) (fun v0 _ => slLen v0)
  case atStart => exact ⟨L, rfl, Nat.le_refl _, htop, 0, rfl⟩
  case round =>
    obtain ⟨k, rfl, hk, hq, q, rfl⟩ := hrel
    rcases Nat.eq_zero_or_pos k with h0 | hp
    · have hF := Lib.hid (hfin.out k hk hq.out (by
        subst h0
        have := hlen.out 0 hq.out
        omega))
      subst h0
      go_wp2_with fail
      go_ret
      exact ⟨_, rfl, hF.out, hob.out _, _, rfl⟩
    · obtain ⟨m, hm⟩ : ∃ m, k = m + 1 := ⟨k - 1, by omega⟩
      have hml : m < L := by omega
      obtain ⟨b1, o1, rfl, hc1⟩ := hat.out (by omega)
      have hx := hc1 m hml
      rw [hget.out] at hx
      clear hc1
      have hqm := hq.out
      rw [hm, Nat.pow_succ] at hqm
      have hdiv : n / 10 ^ m < 10 := by rw [Nat.div_lt_iff_lt_mul (Nat.pow_pos (by omega))]; omega
      clear hqm
      rw [Nat.mod_eq_of_lt hdiv] at hx
      clear hdiv
      have hmk : m = k - 1 := by omega
      clear hml
      by_cases hz : n / 10 ^ m = 0
      · rw [hz] at hx
        have hlt := Lib.hid (lt_pow_of_div hz)
        clear hz
        rw [hmk] at hx hlt
        clear hm hmk
        go_wp2_with fail
        refine ⟨⟨k - 1, by go_num, by omega, hlt, _, rfl⟩, ?_⟩
        simp only [slLen]; omega
      · have hF := Lib.hid (hfin.out k hk hq.out (by
          have h1 := hlen.out k hq.out
          have h2 := (hlt0.out m).2 (Nat.pos_of_ne_zero hz)
          omega))
        have tz : (((n / 10 ^ m : Nat) : Int) == 0) = false := by rw [beq_eq_false_iff_ne]; omega
        clear hz
        generalize ((n / 10 ^ m : Nat) : Int) = x at *
        rw [hmk] at hx
        clear hm hmk
        go_wp2_with fail
        go_ret
        exact ⟨_, rfl, hF.out, hob.out _, _, rfl⟩
end Go.Proofs.Ytacmheeodhjlbaa
