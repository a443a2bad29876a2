/-
  Owned slices: cut short; what is behind a place, cleared.
-/
import Derived.Test.YtccnkcaagigceaaGreatOwn
namespace Go.Proofs.YtccnkcaagigceaaGreat
open Go.RowKit

section
variable {α : Type} {w : World} {sz : Nat} {cs : α → List Value} {xs : List α} {base E : Nat}
theorem OwnS.cut (hcs : ∀ x, (cs x).length = sz) {g n c : Nat} (h : OwnS base E sz cs w (.slice (some ⟨g, 0, none⟩) n c) xs) (hn : n = xs.length) {i : Nat} (hi : i ≤ n) :
    OwnS base E sz cs w (.slice (some ⟨g, 0, none⟩) i c) (xs.take i) := by
  subst hn
  rcases h.2 with ⟨he, _⟩ | ⟨g', cap, cur, he, hb, hh, hc1, hc2, hc3, hc4⟩
  · cases he
  injection he with e1 _ e3
  injection e1 with e1
  injection e1 with e1
  subst e1 e3
  have hl : (xs.take i).length = i := by rw [List.length_take]; omega
  unfold OwnS
  rw [hl]
  refine ⟨by rw [flat_length hcs, hl], .inr ⟨g, c, cur, rfl, hb, hh, by omega, hc2, hc3, ?_⟩⟩
  rw [← flat_take hcs, ← hc4, List.take_take, Nat.min_eq_left (Nat.mul_le_mul_right _ hi)]
/-- What lies behind place i, cleared: what lies ahead stands. -/
theorem run_clear_own {P : Program} {T ty g c n i cc : Nat} {z : Value} (hcs : ∀ x, (cs x).length = sz)
    (hu : P.underlying T = some (.slice E)) (hz : ∀ w, (zeroValue E).run P w = .ok z w) (hzs : z.cells.size = sz) (hz1 : ∀ u ∈ z.cells.toList, u.oneCell' = true) (hsz : 0 < sz)
    (hown : OwnS base E sz cs w (.slice (some ⟨g, 0, none⟩) n c) xs) (hn : n = xs.length) (hi : i < n) :
    ∃ w', (Builtin.clear_ #[T] ty #[.slice (some ⟨g, i * sz, none⟩) (n - i) cc]).run P w = .ok (.tuple #[]) w' ∧
      OwnS base E sz cs w' (.slice (some ⟨g, 0, none⟩) i c) (xs.take i) ∧ Mod (fun b => b = g) w w' := by
  have hcut := hown.cut hcs hn (i := i) (by omega)
  have hl : (xs.take i).length = i := by rw [List.length_take]; omega
  rcases hcut.2 with ⟨he, _⟩ | ⟨g', cap, cur, he, hb, hh, hc1, hc2, hc3, hc4⟩
  · cases he
  injection he with e1 _ e3
  injection e1 with e1
  injection e1 with e1
  subst e1 e3
  have hcap := (hown.cap rfl).1
  obtain ⟨L, hL⟩ : ∃ L, L = (Builtin.zeroCells z.cells (n - i)).toList := ⟨_, rfl⟩
  have hLl : L.length = (n - i) * sz := by rw [hL]; simp [Builtin.zeroCells, hzs]
  have hL1 : ∀ u ∈ L, u.oneCell' = true := by
    intro u hu
    rw [hL] at hu
    simp only [Builtin.zeroCells, Array.toList_map, List.mem_map] at hu
    obtain ⟨k, _, rfl⟩ := hu
    refine hz1 _ ?_
    have : k % z.cells.size < z.cells.size := Nat.mod_lt _ (by omega)
    rw [getElem!_pos z.cells _ this]
    exact Array.getElem_mem_toList this
  have hfit : i * sz + (n - i) * sz ≤ c * sz := by rw [← Nat.add_mul]; exact Nat.mul_le_mul_right _ (by omega)
  have hst := run_storeCells_at P g (i * sz) E L 0 cur w hh (by rw [hLl, hc3]; omega) hL1
  simp only [Nat.add_zero] at hst
  obtain ⟨m, hm⟩ : ∃ m, n - i = m + 1 := ⟨n - i - 1, by omega⟩
  refine ⟨w.setRow g (cur.toList.take (i * sz) ++ L ++ cur.toList.drop (i * sz + L.length)).toArray, ?_, ?_, ⟨rfl, rfl, rfl, by simp [World.setRow], fun k hk hne => setRow_other w g k _ hne⟩⟩
  · rw [hm] at hL ⊢
    rw [hL] at hst ⊢
    simp [Builtin.clear_, run_underlying hu, hz, hst]
  · have hcl : cur.toList.length = c * sz := by rw [Array.length_toList, hc3]
    have htl : (cur.toList.take (i * sz)).length = i * sz := by rw [List.length_take, hcl]; omega
    unfold OwnS
    rw [hl] at hc4 ⊢
    refine ⟨by rw [flat_length hcs, hl], .inr ⟨g, c, (cur.toList.take (i * sz) ++ L ++ cur.toList.drop (i * sz + L.length)).toArray, rfl, hb, setRow_heap w g _ _ E _ hh, by omega, hc2, ?_, ?_⟩⟩
    · rw [List.size_toArray, splice_len _ _ _ (by rw [hLl, hcl]; omega), hcl]
    · show List.take (i * sz) (cur.toList.take (i * sz) ++ L ++ cur.toList.drop (i * sz + L.length)) = _
      rw [List.append_assoc, List.take_append_of_le_length (by omega), List.take_of_length_le (by omega)]
      exact hc4
theorem wpList_clear {P : Program} {ops : Array Oper} {rest : List Oper} {o : Oper} {a : Act} {Q : Exit → Act → World → Prop} {T g c n i cc o' d : Nat} {z : Value} (hgd : o.guard = none) (x : Operand) (ho : o.op = .call { callee := .builtin .clear, args := #[x], argTypes := #[T] }) (hcs : ∀ x, (cs x).length = sz)
    (hu : P.underlying T = some (.slice E)) (hz : ∀ w, (zeroValue E).run P w = .ok z w) (hzs : z.cells.size = sz) (hz1 : ∀ u ∈ z.cells.toList, u.oneCell' = true) (hsz : 0 < sz)
    (hown : OwnS base E sz cs w (.slice (some ⟨g, 0, none⟩) n c) xs) (hn : n = xs.length) (hi : i < n) (hx : a.eval x = .slice (some ⟨g, o', none⟩) d cc) (ho' : o' = i * sz) (hd : d = n - i)
    (h : ∀ w', OwnS base E sz cs w' (.slice (some ⟨g, 0, none⟩) i c) (xs.take i) → Mod (fun b => b = g) w w' → wpList P ops Q rest (a.put o.dst (.tuple #[])) w') : wpList P ops Q (o :: rest) a w := by
  refine wpList_plain hgd fun K hK => ?_
  subst ho' hd
  obtain ⟨w', hrun, h2, h3⟩ := run_clear_own (P := P) (ty := o.type) (cc := cc) hcs hu hz hzs hz1 hsz hown hn hi
  unfold Oper.wp execOp
  simp only [ho, resolve, invoke, builtin, Sem.run_bind, Sem.run_pure, Result.andThen_ok, List.map_toArray, List.map_cons, List.map_nil, hx, hrun]
  exact hK _ _ (h w' h2 h3)
end
end Go.Proofs.YtccnkcaagigceaaGreat
