/- The reference's rows of digits: digit, less, cut, together, apart. -/
import Derived.Test.YtacmheeodhjlbaaSum
import Derived.Test.YtacmheeodhjlbaaDigs
import Derived.Maps.AppendAt
import Derived.Deep.CutRange
import Derived.OneCell
import Derived.Deep.QuietTactic
import Derived.BigQuiet
namespace Go.Proofs.Ytacmheeodhjlbaa
open Go.RowKit Go.WideShapes

theorem info_int : (Try.prog.info? 3).map (fun i => (i.zero, i.size, i.bytes)) = some (some (.int .i64 0), 1, 8) := by kernel_rfl
def intV (l : List Int) : List Value := l.map (Value.int .i64)
/-- A row of its own holds these numbers. -/
theorem IntsAt.own {w : World} {base : Nat} {e : TypeId} {v : Value} {l : List Int} (h : w.ownsRow base e 1 v l.length (intV l)) : IntsAt w v l := by
  rcases h.2 with ⟨rfl, h0⟩ | ⟨g, cap, cur, rfl, hb, hg, hn, hm, hs, ht⟩
  · exact .inl ⟨List.eq_nil_of_length_eq_zero h0, none, 0, rfl⟩
  · refine .inr ⟨g, 0, cap, rfl, ⟨(Array.getElem?_eq_some_iff.1 hg).1, hn⟩, fun i hi => ?_⟩
    have := h.cells (g := g) rfl i (.int .i64 (l.getD i 0)) (by simp [intV, hi])
    rw [show (⟨g, 0, none⟩ : Addr).add i = ⟨g, 0 + i, none⟩ from by simp [Addr.add]; omega] at this
    exact this
theorem digit_any (l : List Int) (i : Nat) (v : Value) (w : World) (hv : IntsAt w v l) (hn : l.length ≤ 17592186044416) (hi : i ≤ 17592186044416) : Calls Try.prog 44 #[v, .int .i64 i] w fun e w' => e = .returned (.int .i64 (l.getD i 0)) ∧ w' = w := by
  obtain ⟨va, vc, rfl⟩ := hv.len
  by_cases hlt : i < l.length
  · obtain ⟨b, off, rfl, hcs⟩ := hv.at (by omega)
    have hx := hcs i hlt
    clear hcs hv
    generalize l.getD i 0 = x at *
    go_enter Try.func44, Try.ntmps44
    go_wp2_with fail
    go_ret
    exact ⟨rfl, rfl⟩
  · have e : l.getD i 0 = 0 := by rw [List.getD_eq_getElem?_getD, List.getElem?_eq_none (by omega)]; rfl
    rw [e]
    clear hv e
    go_enter Try.func44, Try.ntmps44
    go_wp2_with fail
    go_ret
    exact ⟨rfl, rfl⟩
theorem IntsAt.drewN {w : World} {v : Value} {l : List Int} (h : IntsAt w v l) (n : Nat) : IntsAt (w.drewN n) v l := h
theorem less_len (a b : Option Addr) (n m c d : Nat) (h : n ≠ m) (w : World) :
    Calls Try.prog 42 #[.slice a n c, .slice b m d] w fun e w' => e = .returned (.bool (decide (n < m))) ∧ w' = w := by
  have t1 : ((n : Int) != (m : Int)) = true := by simp; omega
  go_enter Try.func42, Try.ntmps42
  go_wp2_with fail
  go_ret
  exact ⟨rfl, rfl⟩
set_option maxRecDepth 100000 in
set_option maxHeartbeats 4000000 in
theorem less_same (a b n : Nat) (hn : n ≤ 17592186044416) (la lb : List Int) (lla : la.length = n) (llb : lb.length = n) (hA : ∀ i, la.getD i 0 = ((a / 10 ^ i % 10 : Nat) : Int)) (hB : ∀ i, lb.getD i 0 = ((b / 10 ^ i % 10 : Nat) : Int)) (hab : a / 10 ^ n = b / 10 ^ n)
    (aa ba : Option Addr) (ac bc : Nat) (w : World) (ha : IntsAt w (.slice aa n ac) la) (hb : IntsAt w (.slice ba n bc) lb) :
    Calls Try.prog 42 #[.slice aa n ac, .slice ba n bc] w fun e w' => e = .returned (.bool (decide (a < b))) ∧ ∃ q, w' = w.drewN q := by
  have hata := Lib.hid (fun hp => ha.at hp)
  have hatb := Lib.hid (fun hp => hb.at hp)
  clear ha hb
  rw [lla] at hata
  rw [llb] at hatb
  replace hA := Lib.hid hA
  replace hB := Lib.hid hB
  clear lla llb
  have hd : ∀ x, x = decide (a < b) → Ending.returned (.bool x) = .returned (.bool (decide (a < b))) := fun x h => by rw [h]
  replace hd := Lib.hid hd
  replace hab := Lib.hid hab
  go_enter Try.func42, Try.ntmps42
  go_wp2_with fail
  go_loopw [5] (fun v5 wr => ∃ k : Nat, v5 = .int .i64 ((k : Int) - 1) ∧ k ≤ n ∧ Hid (a / 10 ^ k = b / 10 ^ k) ∧ ∃ q, wr = w.drewN q) (fun v5 _ => (intOf v5 + 1).toNat)
  case atStart =>
    exact ⟨n, rfl, Nat.le_refl _, hab, 0, rfl⟩
  case round =>
    obtain ⟨k, rfl, hk, hq, q, rfl⟩ := hrel
    rcases Nat.eq_zero_or_pos k with h0 | hp
    · subst h0
      have hres : Hid (false = decide (a < b)) := Lib.hid (by
        have hab : a = b := by simpa using hq.out
        exact (decide_eq_false (by omega)).symm)
      go_wp2_with fail
      go_ret
      exact ⟨hd.out _ hres.out, _, rfl⟩
    · obtain ⟨k, rfl⟩ : ∃ m, k = m + 1 := ⟨k - 1, by omega⟩
      rw [show ((k + 1 : Nat) : Int) - 1 = (k : Int) by omega]
      have hkn : k < n := by omega
      obtain ⟨b1, o1, rfl, hc1⟩ := hata.out (by omega)
      obtain ⟨b2, o2, rfl, hc2⟩ := hatb.out (by omega)
      have hx := hc1 k hkn
      have hy := hc2 k hkn
      rw [hA.out] at hx
      rw [hB.out] at hy
      clear hc1 hc2
      have hdq := hq.out
      rw [div_pow_succ', div_pow_succ'] at hdq
      have hiff := Lib.hid (fun h => div_lt_iff (a := a) (b := b) (n := 10 ^ k) h)
      have hk0 : (0 : Int) ≤ (k : Int) := by omega
      have hk1 : (k : Int) < (n : Int) := by omega
      by_cases hdd : a / 10 ^ k = b / 10 ^ k
      · rw [hdd] at hx
        replace hdd := Lib.hid hdd
        clear hdq hiff
        have hne : (((b / 10 ^ k % 10 : Nat) : Int) != ((b / 10 ^ k % 10 : Nat) : Int)) = false := by simp
        generalize ((b / 10 ^ k % 10 : Nat) : Int) = y at *
        go_wp2
        go_quiet (fail)
        go_wp2
        go_roundw
        case rel => exact ⟨k, rfl, by omega, hdd, _, rfl⟩
        case measure => simp only [intOf]; omega
      · have hne : (((a / 10 ^ k % 10 : Nat) : Int) != ((b / 10 ^ k % 10 : Nat) : Int)) = true := by rw [bne_iff_ne]; omega
        have hres : decide (((a / 10 ^ k % 10 : Nat) : Int) < ((b / 10 ^ k % 10 : Nat) : Int)) = decide (a < b) := by
          exact decide_eq_decide.2 (Iff.trans (by omega) (hiff.out hdd))
        replace hres := Lib.hid hres
        clear hdq hiff hdd
        generalize ((a / 10 ^ k % 10 : Nat) : Int) = x at *
        generalize ((b / 10 ^ k % 10 : Nat) : Int) = y at *
        go_wp2
        go_quiet (fail)
        go_wp2
        go_quiet (fail)
        go_wp2
        go_ret
        exact ⟨hd.out _ hres.out, by simp only [World.drewN_drewN]; exact ⟨_, rfl⟩⟩
theorem less_any (a b : Nat) (va vb : Value) (w : World) (ha : IntsAt w va (digs a)) (hb : IntsAt w vb (digs b)) (nb : (digs b).length ≤ 17592186044416) : Calls Try.prog 42 #[va, vb] w fun e w' => e = .returned (.bool (decide (a < b))) ∧ ∃ q, w' = w.drewN q := by
  obtain ⟨aa, ac, rfl⟩ := ha.len
  obtain ⟨ba, bc, rfl⟩ := hb.len
  by_cases hl : (digs a).length = (digs b).length
  · have hab : a / 10 ^ (digs b).length = b / 10 ^ (digs b).length := by
      rw [← hl, Nat.div_eq_of_lt (digs_top a), hl, Nat.div_eq_of_lt (digs_top b)]
    rw [hl] at ha ⊢
    exact less_same a b _ nb (digs a) (digs b) hl rfl (digs_get a) (digs_get b) hab aa ba ac bc w ha hb
  · have hres : decide (a < b) = decide ((digs a).length < (digs b).length) := by
      refine decide_eq_decide.2 ⟨fun h' => ?_, fun h' => digs_big h'⟩
      rcases Nat.lt_or_ge (digs a).length (digs b).length with h2 | h2
      · exact h2
      · have := digs_big (a := b) (b := a) (by omega); omega
    rw [hres]
    exact (less_len aa ba _ _ ac bc hl w).mono fun e w' ⟨h1, h2⟩ => ⟨h1, 0, h2⟩
end Go.Proofs.Ytacmheeodhjlbaa
