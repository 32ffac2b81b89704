/- A loop over Each that collects. -/
import Derived.Test.YtmmhcfbnelggfaaDoorMade
namespace Go.Proofs.YtmmhcfbnelggfaaDoor
open Go.RowKit Go.Shelf
attribute [local go_sem] Oper.semAt_some

/-- The frame of a round: the yielded number in its two slots. -/
def roundAct (a : Act) (p s : Tmp) (x : Nat) : Act := { tmps := (a.tmps.setIfInBounds p (.int .i64 x)).setIfInBounds s (.int .i64 x), defers := [] }
/-- A loop over Each whose body may leave by one exit: what stands behind it stands there once. -/
theorem wpIn_range_each {g : Operand} {p s : Tmp} {assign body : Code} {Q : Exit → Act → World → Prop} {a : Act} {w : World} (id m bM n₀ : Nat) (hm : m < 18446744073709551616)
    (hg : a.eval g = .func (.func 38) #[] #[.pointer (some ⟨bM, 0, none⟩)]) (hM : Boxed w bM 24 (.int .u64 m)) (hT : Tab w) (hT0 : 0 < n₀) (hn : n₀ ≤ w.heap.size)
    (I Ie : List Nat → World → Prop) (hI : OwnFrom w.heap.size I) (hIe : OwnFrom w.heap.size Ie) (h0 : I [] w)
    (hassign : ∀ (l : Nat) (x : Nat) (W : World) (K : Act → World → Prop), K (roundAct a p s x) W → assign.wpIn (Fence.wide.inRound l) 7 Tryd.prog (Exit.then K (fun _ _ _ => False)) { tmps := a.tmps.setIfInBounds p (.int .i64 x), defers := [] } W)
    (hbody : ∀ (l : Nat) (pre : List Nat) (x : Nat) (W : World), I pre W → pre.length < (nums m).length → body.wpIn (Fence.wide.inRound l) 7 Tryd.prog (ownPostG w.heap.size (Below n₀) I (fun c pre W => c = .exit id ∧ Ie pre W) (pre ++ [x]) W) (roundAct a p s x) W)
    (hQ : ∀ (a : Act) (W : World), Q .normal a W → Q (.exit id) a W)
    (hend : ∀ (D : Nat) (W : World), w.heap.size ≤ D → (I (nums m) W ∨ ∃ pre, pre <+: nums m ∧ Ie pre W) → W.heap[D]? = some (.deferred (some [])) → Q .normal { a with defers := { target := .collected D, args := #[] } :: a.defers } W) :
    (Code.rangeFunc g #[p] assign body).wpIn Fence.wide 9 Tryd.prog Q a w :=
  wpIn_rangeFunc_ownG (Kp := Below n₀) rfl (by omega) hg trivial (enters_of Tryd.func38 (by kernel_rfl) rfl)
    (each_stops 8 (by omega) bM n₀ m hm w hM.lt hM.cell hT hT0) belowK_t (belowK_b hn) (Below.refl _ _) (fun _ => rfl)
    I (fun c pre W => c = .exit id ∧ Ie pre W) hI (fun c s W W' row hs hg' hr => ⟨hs.1, hIe s W W' row hs.2 hg' hr⟩) h0 (roundAct a p s)
    (fun l x W K hK => by have h := hassign l x W K hK; simpa using h) hbody
    (fun D xs W hD hS hI hK => hend D W hD (.inl (by rw [← hS]; exact hI)) hK)
    (fun D c pre W hD hS hx hK => by obtain ⟨rfl, hx⟩ := hx; exact wpIn_exit (hQ _ _ (hend D W hD (.inr ⟨pre, hS, hx⟩) hK)))

/-- What a collecting loop has made: block B is a box with a slice that owns the numbers so far. -/
def Coll (B : Nat) (W0 : World) (pre : List Nat) (W : World) : Prop :=
  (∃ v, Boxed W B 22 v ∧ W.ownsRow B 3 1 v pre.length (intsV pre) ∧ (v = .slice none 0 0 ↔ pre = [])) ∧ Below B W0 W
theorem coll_own {B n : Nat} {W0 : World} (h : B ≤ n) (h0 : B ≤ W0.heap.size) : OwnFrom n (Coll B W0) :=
  OwnFrom.and (Own.from (holdsRow_own B B 22 3 1 (fun pre : List Nat => pre.length) (fun pre => intsV pre) (fun pre v => v = .slice none 0 0 ↔ pre = [])) _) (fun s W W' row hs hg hr => hs.grown hg (by have := hs.size; omega) (fun k e => by have := (hr k e).1; omega))
theorem own_const {n : Nat} (P : List Nat → Prop) : OwnFrom n (fun pre (_ : World) => P pre) := fun _ _ _ _ hs _ _ => hs
end Go.Proofs.YtmmhcfbnelggfaaDoor
