/-
  append of one element, laid in a new block, to a slice of one's own.
-/
import Derived.Test.YtidbgfmknhlmnaaGreatDoorBase
namespace Go.Proofs.YtidbgfmknhlmnaaGreatDoor
open Go.RowKit
section
variable {α : Type} {w0 wr w' : World} {sz : Nat} {cs : α → List Value} {xs : List α} {E : Nat} {v v' : Value}
variable {P : Program} {T bytes : Nat} {ops : Array Oper} {rest : List Oper} {o : Oper} {a : Act} {Q : Exit → Act → World → Prop}

theorem app1_after {y : α} (hm : Mod (fun _ => False) w0 wr) (hown : OwnS w0.heap.size E sz cs wr v xs) {c : Array Value}
    (h3 : Mod (fun b => v.ownBlock = some b) (wr.alloc (.cells c E (0, 0))) w') (h4 : v'.ownBlock = v.ownBlock ∨ v'.ownBlock = some (wr.alloc (.cells c E (0, 0))).heap.size) (_h2 : OwnS w0.heap.size E sz cs w' v' (xs ++ [y])) :
    Mod (fun _ => False) w0 w' ∧ Mod (fun b => v.ownBlock = some b) wr w' ∧ (v'.ownBlock = v.ownBlock ∨ v'.ownBlock = some (wr.heap.size + 1)) := by
  have hw : Mod (fun b => v.ownBlock = some b) wr w' := ((Mod.refl _ wr).alloc _).trans' h3
  refine ⟨hm.trans hw (fun b hb => .inr (hown.fresh b hb).1), hw, ?_⟩
  rcases h4 with h | h
  · exact .inl h
  · right; rw [h]; simp

theorem wpList_app1 (hgd : o.guard = none) (s x : Operand) (ho : o.op = .call { callee := .builtin .append, args := #[s, x], argTypes := #[T, T] }) (ht : SliceT P T E sz bytes) (hcs : ∀ x, (cs x).length = sz) (h1 : ∀ x, ∀ u ∈ cs x, u.oneCell' = true)
    (hs : a.eval s = v) (hown : OwnS w0.heap.size E sz cs wr v xs) (hm : Mod (fun _ => False) w0 wr) {y : α} {c : Array Value} (hx : a.eval x = .slice (some ⟨wr.heap.size, 0, none⟩) 1 1) (hc : c.toList = cs y)
    (hb1 : xs.length + 1 ≤ maxLen) (hb2 : (xs.length + 1) * bytes ≤ 140737488355328)
    (h : ∀ v' w', OwnS w0.heap.size E sz cs w' v' (xs ++ [y]) → Mod (fun _ => False) w0 w' → Mod (fun b => v.ownBlock = some b) wr w' → (v'.ownBlock = v.ownBlock ∨ v'.ownBlock = some (wr.heap.size + 1)) → wpList P ops Q rest (a.put o.dst v') w') :
    wpList P ops Q (o :: rest) a (wr.alloc (.cells c E (0, 0))) :=
  wpList_app (base := w0.heap.size) (xs := xs) (ys := [y]) (D := fun b => b = wr.heap.size) (v := v) hgd s x ho ht hcs h1 hs (hown.below ((Below.refl _ wr).alloc (Nat.le_refl _) _) fun b hb => (hown.fresh b hb).2) 1 hx rfl
    (Rd.one (hp_new wr _) hc) hb1 hb2 (by have := hm.size; simp; omega) fun v' w' h2 h3 h4 => by
      obtain ⟨k1, k2, k3⟩ := app1_after hm hown h3 h4 h2
      exact h v' w' h2 k1 k2 k3
theorem wpListIn_app1 {F : Fence} {n : Nat} (hgd : o.guard = none) (s x : Operand) (ho : o.op = .call { callee := .builtin .append, args := #[s, x], argTypes := #[T, T] }) (ht : SliceT P T E sz bytes) (hcs : ∀ x, (cs x).length = sz) (h1 : ∀ x, ∀ u ∈ cs x, u.oneCell' = true)
    (hs : a.eval s = v) (hown : OwnS w0.heap.size E sz cs wr v xs) (hm : Mod (fun _ => False) w0 wr) {y : α} {c : Array Value} (hx : a.eval x = .slice (some ⟨wr.heap.size, 0, none⟩) 1 1) (hc : c.toList = cs y)
    (hb1 : xs.length + 1 ≤ maxLen) (hb2 : (xs.length + 1) * bytes ≤ 140737488355328)
    (h : ∀ v' w', OwnS w0.heap.size E sz cs w' v' (xs ++ [y]) → Mod (fun _ => False) w0 w' → Mod (fun b => v.ownBlock = some b) wr w' → (v'.ownBlock = v.ownBlock ∨ v'.ownBlock = some (wr.heap.size + 1)) → wpListIn F n P ops Q rest (a.put o.dst v') w') :
    wpListIn F n P ops Q (o :: rest) a (wr.alloc (.cells c E (0, 0))) :=
  wpListIn_app (base := w0.heap.size) (xs := xs) (ys := [y]) (D := fun b => b = wr.heap.size) (v := v) hgd s x ho ht hcs h1 hs (hown.below ((Below.refl _ wr).alloc (Nat.le_refl _) _) fun b hb => (hown.fresh b hb).2) 1 hx rfl
    (Rd.one (hp_new wr _) hc) hb1 hb2 (by have := hm.size; simp; omega) fun v' w' h2 h3 h4 => by
      obtain ⟨k1, k2, k3⟩ := app1_after hm hown h3 h4 h2
      exact h v' w' h2 k1 k2 k3
theorem step_app1 {K : Act → World → Prop} {F : Prop} (hgd : o.guard = none) (s x : Operand) (ho : o.op = .call { callee := .builtin .append, args := #[s, x], argTypes := #[T, T] }) (ht : SliceT P T E sz bytes) (hcs : ∀ x, (cs x).length = sz) (h1 : ∀ x, ∀ u ∈ cs x, u.oneCell' = true)
    (hs : a.eval s = v) (hown : OwnS w0.heap.size E sz cs wr v xs) (hm : Mod (fun _ => False) w0 wr) {y : α} {c : Array Value} (hx : a.eval x = .slice (some ⟨wr.heap.size, 0, none⟩) 1 1) (hc : c.toList = cs y)
    (hb1 : xs.length + 1 ≤ maxLen) (hb2 : (xs.length + 1) * bytes ≤ 140737488355328)
    (h : ∀ v' w', OwnS w0.heap.size E sz cs w' v' (xs ++ [y]) → Mod (fun _ => False) w0 w' → Mod (fun b => v.ownBlock = some b) wr w' → (v'.ownBlock = v.ownBlock ∨ v'.ownBlock = some (wr.heap.size + 1)) → K (a.put o.dst v') w') :
    if Region.wanted o (yielded ops a.tmps) = true then Oper.wp P o a (wr.alloc (.cells c E (0, 0))) K Q else F :=
  step_app (base := w0.heap.size) (xs := xs) (ys := [y]) (D := fun b => b = wr.heap.size) (v := v) hgd s x ho ht hcs h1 hs (hown.below ((Below.refl _ wr).alloc (Nat.le_refl _) _) fun b hb => (hown.fresh b hb).2) 1 hx rfl
    (Rd.one (hp_new wr _) hc) hb1 hb2 (by have := hm.size; simp; omega) fun v' w' h2 h3 h4 => by
      obtain ⟨k1, k2, k3⟩ := app1_after hm hown h3 h4 h2
      exact h v' w' h2 k1 k2 k3
end
end Go.Proofs.YtidbgfmknhlmnaaGreatDoor
