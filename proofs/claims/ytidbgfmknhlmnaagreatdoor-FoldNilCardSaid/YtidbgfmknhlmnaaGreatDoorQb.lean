/-
  A region that draws its order, whose operations read and whose callees may lay blocks: one walk in the order of the text.
-/
import Derived.Test.YtidbgfmknhlmnaaGreatDoorBase
import Derived.Lib.QuietBelow
import Derived.BigQuiet
namespace Go.Proofs.YtidbgfmknhlmnaaGreatDoor
open Go.RowKit Go.Sort

section
variable {P : Program} {f : FuncId} {args : Array Value} {w : World} {v : Value}
theorem mod_regrown (w : World) (d : Nat) (os : Array Obj) : Mod (fun _ => False) w (grow (redrawn w d) os) :=
  Mod.of_below (below_regrown w d os) _ (fun b h1 h2 => by omega)
theorem mod_of_regrown {w' : World} (h : ∃ p : Regrown, w' = grow (redrawn w p.d) p.os) : Mod (fun _ => False) w w' := by
  obtain ⟨p, rfl⟩ := h
  exact mod_regrown w p.d p.os
theorem regrown_of_mod {w' : World} (h : Mod (fun _ => False) w w') : ∃ p : Regrown, w' = grow (redrawn w p.d) p.os :=
  regrown_of_below (h.below (fun _ h => h.elim) (Nat.le_refl _))
/-- A callee's contract, at whatever world behind w. -/
theorem regM {d : Nat} {os : Array Obj} (h : ∀ X, Mod (fun _ => False) w X → Calls P f args X fun e w' => e = .returned v ∧ Mod (fun _ => False) X w') :
    Calls P f args (grow (redrawn w d) os) fun e w'' => e = .returned v ∧ ∃ p : Regrown, w'' = grow (redrawn w p.d) p.os :=
  (h _ (mod_regrown w d os)).mono fun _ _ ⟨he, hm⟩ => ⟨he, regrown_of_mod ((mod_regrown w d os).trans' hm)⟩
theorem regE {d : Nat} {os : Array Obj} (h : ∀ X, Mod (fun _ => False) w X → Calls P f args X fun e w' => e = .returned v ∧ X = w') :
    Calls P f args (grow (redrawn w d) os) fun e w'' => e = .returned v ∧ ∃ p : Regrown, w'' = grow (redrawn w p.d) p.os :=
  regM fun X hX => (h X hX).mono fun _ _ ⟨he, hm⟩ => ⟨he, by rw [← hm]; exact Mod.refl _ _⟩
end
end Go.Proofs.YtidbgfmknhlmnaaGreatDoor
