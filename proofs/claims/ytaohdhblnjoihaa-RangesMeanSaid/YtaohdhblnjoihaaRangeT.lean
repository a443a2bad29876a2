/-
  The range over a function, its activations told over the frame's own array.
-/
import Derived.Test.YtaohdhblnjoihaaBase
namespace Go.Proofs.Ytaohdhblnjoihaa
open Go.RowKit
/-- A range over an iterator, the activations told over the frame's own array. -/
theorem wp_range_t {P : Program} {g : Operand} {ps : Array Tmp} {assign body : Code} {Q : Exit → Act → World → Prop} {a : Act} {w : World} {n : Nat}
    {gf : Nat} {lb : Array Value} (hg : a.eval g = .func (.func gf) #[] lb) (eg : ∀ args w, (callFunc gf args).run P w = .ok (.enter gf args) w)
    {encs : List (Array Value)} {D : Nat → Prop} (it : Iter P gf lb encs D w) (hD : ∀ b, D b → b < w.heap.size)
    (hps : ∀ x ∈ encs, x.size = ps.size)
    (I : Nat → (Nat → Prop) → World → Prop) (Ix : Code → Nat → (Nat → Prop) → World → Prop) (AxT : Array Value → Act → Nat → (Nat → Prop) → World → Prop)
    (hI : Stab I) (hIx : ∀ c, Stab (Ix c)) (hAx : ∀ T a', Stab (AxT T a'))
    (C0 : Nat → Prop) (hC0 : ∀ b, C0 b → b < w.heap.size ∧ ¬ D b) (h0 : I 0 C0 w)
    (hassign : ∀ (l k : Nat) (hk : k < encs.length) (C : Nat → Prop) (W : World), I k C W → Mod C0 w W → (∀ b, C b → b < W.heap.size ∧ (C0 b ∨ w.heap.size ≤ b)) →
      assign.wpIn (Fence.wide.inRound l) 0 P (Exit.then (fun a' W' => Rnd (AxT a.tmps a') k C W W') (fun _ _ _ => False))
        { tmps := (ps.zip encs[k]).foldl (fun t (p, v) => t.setIfInBounds p v) a.tmps, defers := [] } W)
    (hbody : ∀ (l k : Nat) (_ : k < encs.length) (C : Nat → Prop) (a' : Act) (W : World), AxT a.tmps a' k C W → Mod C0 w W → (∀ b, C b → b < W.heap.size ∧ (C0 b ∨ w.heap.size ≤ b)) →
      (∃ r, W.heap[l]? = some (.loop r)) → ¬ C l → w.heap.size ≤ l →
      body.wpIn (Fence.wide.inRound l) 0 P (rndPost I Ix (k + 1) C W) a' W)
    (hdone : ∀ (W' : World) (C' : Nat → Prop), I encs.length C' W' → Mod C0 w W' → (∀ b, C' b → b < W'.heap.size ∧ (C0 b ∨ w.heap.size ≤ b)) →
      W'.heap[w.heap.size]? = some (.deferred (some [])) → ¬ C' w.heap.size → Q .normal { a with defers := { target := .collected w.heap.size, args := #[] } :: a.defers } W')
    (hstop : ∀ (W' : World) (C' : Nat → Prop) (c : Code) (k : Nat), 0 < k → k ≤ encs.length → Ix c k C' W' → Mod C0 w W' → (∀ b, C' b → b < W'.heap.size ∧ (C0 b ∨ w.heap.size ≤ b)) →
      W'.heap[w.heap.size]? = some (.deferred (some [])) → ¬ C' w.heap.size → c.wpIn Fence.wide n P Q { a with defers := { target := .collected w.heap.size, args := #[] } :: a.defers } W') :
    (Code.rangeFunc g ps assign body).wpIn Fence.wide n P Q a w :=
  wp_range hg eg it hD hps I Ix (AxT a.tmps) hI hIx (hAx a.tmps) C0 hC0 h0 hassign hbody hdone hstop
end Go.Proofs.Ytaohdhblnjoihaa
