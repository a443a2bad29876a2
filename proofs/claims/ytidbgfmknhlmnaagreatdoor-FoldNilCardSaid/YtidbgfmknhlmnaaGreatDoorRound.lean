/-
  A region that only reads, in a round of a loop over a function: one walk serves every order.
-/
import Derived.Test.YtidbgfmknhlmnaaGreatDoorBase
namespace Go.Proofs.YtidbgfmknhlmnaaGreatDoor
open Go.RowKit

def notDefer (o : Oper) : Bool := match o.op with | .defer _ => false | _ => true
theorem notDefer_ne {o : Oper} (h : notDefer o = true) : ∀ c, o.op ≠ .defer c := fun c e => by simp [notDefer, e] at h

theorem all_notDefer {l : List Oper} (h : l.all notDefer = true) : ∀ (i : Nat) o, l.toArray[i]? = some o → notDefer o = true := fun _ o ho => List.all_eq_true.1 h o (List.mem_of_getElem? (by simpa using ho))
section
variable {F : Fence} {n l₀ : Nat} {P : Program} {ops : Array Oper} {md : Region.Mode} {Q : Exit → Act → World → Prop}

theorem upon_round {o : Oper} {a : Act} {K : Act → World → Prop} (r : Result Next) (h : o.uponIn F n P a K Q r) : o.uponIn (F.inRound l₀) n P a K Q r := by
  cases r with
  | ok x w => cases x <;> exact h
  | halt x w => exact h

theorem oper_round {o : Oper} {a : Act} {w : World} {K : Act → World → Prop} (hr : F.round = none) (hd : notDefer o = true) (h : o.wpIn F n P a w K Q) : o.wpIn (F.inRound l₀) n P a w K Q := by
  unfold Oper.wpIn at h ⊢
  refine ⟨h.1, ?_⟩
  have h2 := h.2
  rw [hr, Oper.semAt_none] at h2
  rw [Oper.semAt_eq _ _ _ (notDefer_ne hd)]
  exact upon_round _ h2

theorem any_round (hr : F.round = none) (hd : ∀ (i : Nat) o, ops[i]? = some o → notDefer o = true) : ∀ (fuel : Nat) (listed : Array Bool) (a : Act) (w : World), wpAnyIn F n P md ops Q fuel listed a w → wpAnyIn (F.inRound l₀) n P md ops Q fuel listed a w
  | 0, _, _, _, h => h
  | fuel + 1, listed, a, w, h => by
    refine ⟨h.1, fun i hi => ?_⟩
    have h1 := h.2 i hi
    unfold wpOpIn at h1 ⊢
    split
    · rename_i ho
      simp only [ho] at h1
      exact any_round hr hd fuel _ _ _ h1
    · rename_i o ho
      simp only [ho] at h1
      split
      · rename_i hw
        rw [if_pos hw] at h1
        exact oper_round hr (hd i o ho) (Oper.wpIn_mono (fun a' w' => any_round hr hd fuel _ a' w') h1)
      · rename_i hw
        rw [if_neg hw] at h1
        exact ⟨h1.1, any_round hr hd fuel _ _ _ h1.2⟩

theorem region_quiet_round {id : Nat} {a : Act} {w : World} {l : List Oper} (hr : F.round = none) (hm : P.follows .mixedOrders = true) (hB : Region.lexB .any l.toArray = true) (hd : l.all notDefer = true)
    (h : wpQuietIn F n P l.toArray (fun w' => ∃ n, w' = w.drewN n) (fun a' => ∀ w', (∃ n, w' = w.drewN n) → Q .normal a' w') l a) : (Code.region id l.toArray true).wpIn (F.inRound l₀) n P Q a w := by
  have hB' := hB
  simp only [Region.lexB, Bool.and_eq_true] at hB
  refine wpIn_region_any hm (any_round hr (fun i o ho => List.all_eq_true.1 hd o (List.mem_of_getElem? (by simpa using ho))) _ _ _ _ ?_)
  have hq := wpAnyQIn_lex (F := F) (n := n) (P := P) (C := fun w' => ∃ n, w' = w.drewN n) (md := .any) (ops := l.toArray) (Q := fun a' => ∀ w', (∃ n, w' = w.drewN n) → Q .normal a' w') hB.1 l 0 (Array.replicate l.toArray.size false) a (by simp) (by simpa using hB.2) h
  exact wpAnyIn_of_quiet (C := fun w' => ∃ n, w' = w.drewN n) (Q := fun a' => ∀ w', (∃ n, w' = w.drewN n) → Q .normal a' w') hr (fun _ w' hw' h => h w' hw') _ _ _ _ ⟨1, rfl⟩ (by simpa using hq)
end
end Go.Proofs.YtidbgfmknhlmnaaGreatDoor
