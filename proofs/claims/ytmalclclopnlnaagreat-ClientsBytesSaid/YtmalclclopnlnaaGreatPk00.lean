/-
  Texts of this claim, one behind the other: Base.
-/
import Derived.RangeFuncNested
import Derived.RangeFuncBound
import Derived.RangeFuncCalls
import Derived.RangeFuncLeaves
import Derived.Shelf.Abstract
import Derived.Shelf.RegionOpen
import Derived.WalkKit
import Derived.OwnWalkIn
import Derived.TacticsInMore
import Derived.LoopNIn
import Derived.LoopIn
import Derived.Lib.Hide
import Derived.BigQuiet
import Derived.Deep.QuietTactic
import Derived.WalkLawsBesides
import Derived.WalkSpells
import Derived.Maps.AppendAt
import Derived.Deep.RegionLaw
import Derived.Deep.RegionWith
import Derived.Deep.RegionHeld3
import Derived.StillTailTactics
import Derived.Sort.QuietIn
import Derived.Deep.DeepCutAuto
import Derived.Deep.CutBlock
import Derived.Deep.AppendLies
/-
  The words that all walks of this claim share: hiding, endings, frames by sets of blocks, iterators over a fixed list, the range over a function.
-/
namespace Go.Proofs.YtmalclclopnlnaaGreat
open Go.RowKit

theorem ret_bool {a b : Bool} (h : a = b) : Ending.returned (.bool a) = .returned (.bool b) := by rw [h]
theorem ret_int {k : IntKind} {a b : Int} (h : a = b) : Ending.returned (.int k a) = .returned (.int k b) := by rw [h]

/-! ### '==' of a function value and nil -/
section
variable {P : Program} (w : World) {t : TypeId} {a b : Array TypeId} {c : Bool}
theorem run_eql_func_nil (h : P.underlying t = some (.func a b c)) (f : Fn) (x y : Array Value) : (binOp .eql t (.func f x y) .nilFunc).run P w = .ok (.bool false) w := by
  have h' : ∀ d : Nat, (Op.equalIn (d + 1) t (.func f x y) .nilFunc).run P w = .ok false w := fun d => by simp [Op.equalIn, run_underlying h]
  simp only [binOp]
  simp [Op.equal, Op.maxDepth, h' 9999]
theorem run_eql_nilfunc_nil (h : P.underlying t = some (.func a b c)) : (binOp .eql t .nilFunc .nilFunc).run P w = .ok (.bool true) w := by
  have h' : ∀ d : Nat, (Op.equalIn (d + 1) t .nilFunc .nilFunc).run P w = .ok true w := fun d => by simp [Op.equalIn, run_underlying h]
  simp only [binOp]
  simp [Op.equal, Op.maxDepth, h' 9999]
end

/-! ### Frames by sets of blocks -/

/-- From w to w' only blocks of C, and new ones, may have turned. -/
structure Mod (C : Nat → Prop) (w w' : World) : Prop where
  os : w'.os = w.os
  tape : w'.tape = w.tape
  output : w'.output = w.output
  size : w.heap.size ≤ w'.heap.size
  block : ∀ k, k < w.heap.size → ¬ C k → w'.heap[k]? = w.heap[k]?

/-- On the blocks of C the two worlds agree. -/
structure Agree (C : Nat → Prop) (w w' : World) : Prop where
  os : w'.os = w.os
  tape : w'.tape = w.tape
  output : w'.output = w.output
  size : w.heap.size ≤ w'.heap.size
  block : ∀ k, C k → w'.heap[k]? = w.heap[k]?

section
variable {C C' : Nat → Prop} {w w1 w2 : World}
theorem Mod.refl (C : Nat → Prop) (w : World) : Mod C w w := ⟨rfl, rfl, rfl, Nat.le_refl _, fun _ _ _ => rfl⟩
theorem Mod.trans (h : Mod C w w1) (k : Mod C' w1 w2) (hs : ∀ b, C' b → C b ∨ w.heap.size ≤ b) : Mod C w w2 :=
  ⟨k.os.trans h.os, k.tape.trans h.tape, k.output.trans h.output, Nat.le_trans h.size k.size, fun b hb hc =>
    (k.block b (Nat.lt_of_lt_of_le hb h.size) (fun hc' => by rcases hs b hc' with h' | h'; exact hc h'; omega)).trans (h.block b hb hc)⟩
theorem Mod.trans' (h : Mod C w w1) (k : Mod C w1 w2) : Mod C w w2 := h.trans k (fun _ h => .inl h)
theorem Mod.mono (h : Mod C w w1) (hs : ∀ b, b < w.heap.size → C b → C' b) : Mod C' w w1 :=
  ⟨h.os, h.tape, h.output, h.size, fun b hb hc => h.block b hb (fun hc' => hc (hs b hb hc'))⟩
theorem Mod.alloc (h : Mod C w w1) (o : Obj) : Mod C w (w1.alloc o) :=
  h.trans' ⟨rfl, rfl, rfl, by simp, fun k hk _ => Below.heap_alloc _ _ _ hk⟩
theorem Mod.drew (h : Mod C w w1) : Mod C w w1.drew := ⟨h.os, h.tape, h.output, h.size, h.block⟩
theorem Mod.drewN (h : Mod C w w1) (n : Nat) : Mod C w (w1.drewN n) := ⟨h.os, h.tape, h.output, h.size, h.block⟩
theorem Mod.undrew (h : Mod C w.drew w1) : Mod C w w1 := ⟨h.os, h.tape, h.output, h.size, h.block⟩
theorem Mod.undrewN {n : Nat} (h : Mod C (w.drewN n) w1) : Mod C w w1 := ⟨h.os, h.tape, h.output, h.size, h.block⟩
theorem Mod.setCell (h : Mod C w w1) {p : Addr} (hp : C p.block ∨ w.heap.size ≤ p.block) (u : Value) : Mod C w (w1.setCell p u) :=
  h.trans (C' := fun b => b = p.block) ⟨rfl, rfl, rfl, by simp [World.setCell], fun k _ hk => Below.heap_setCell _ _ _ _ hk⟩ (fun b hb => by subst hb; exact hp)
theorem Mod.putObj (h : Mod C w w1) {l : Nat} (hp : C l ∨ w.heap.size ≤ l) (o : Obj) : Mod C w (w1.putObj l o) :=
  h.trans (C' := fun b => b = l) ⟨rfl, rfl, rfl, by simp, fun k _ hk => World.putObj_heap_other hk⟩ (fun b hb => by subst hb; exact hp)
theorem Mod.grown (h : Mod C w w1) {row : Option Nat} (hg : w1.grownBy w2 row) (hr : ∀ k, row = some k → C k ∨ w.heap.size ≤ k) : Mod C w w2 :=
  h.trans (C' := fun b => row = some b) ⟨hg.os, hg.tape, hg.output, hg.size, fun k hk hne => hg.block k hk (fun e => hne e.symm)⟩ hr
theorem Mod.below (h : Mod C w w1) {B : Nat} (hC : ∀ b, C b → B ≤ b) (hB : B ≤ w.heap.size) : Below B w w1 :=
  ⟨h.os, h.tape, h.output, h.size, fun b hb => h.block b (by omega) (fun hc => by have := hC b hc; omega)⟩
theorem Mod.of_below {B : Nat} (h : Below B w w1) (C : Nat → Prop) (hC : ∀ b, b < w.heap.size → B ≤ b → C b) : Mod C w w1 :=
  ⟨h.os, h.tape, h.output, h.size, fun b hb hc => h.block b (by rcases Nat.lt_or_ge b B with h1 | h1; exact h1; exact absurd (hC b hb h1) hc)⟩
theorem Mod.then_below (h : Mod C w w1) (hb : Below w1.heap.size w1 w2) : Mod C w w2 :=
  h.trans' (Mod.of_below hb C (fun _ h1 h2 => by omega))
theorem Mod.then_below' {B : Nat} (h : Mod C w w1) (hb : Below B w1 w2) (hB : ∀ b, B ≤ b → C b ∨ w.heap.size ≤ b) : Mod C w w2 :=
  h.trans (C' := fun b => B ≤ b) (Mod.of_below hb _ (fun _ _ h2 => h2)) hB
theorem Mod.cell (h : Mod C w w1) {p : Addr} (hp : p.block < w.heap.size) (hc : ¬ C p.block) : w1.cell? p = w.cell? p := World.cell?_of_block (h.block _ hp hc)
theorem Mod.frozen (h : Mod C w w1) {p : Addr} (hp : p.block < w.heap.size) (hc : ¬ C p.block) : w1.frozen? p = w.frozen? p := World.frozen?_of_block (h.block _ hp hc)
theorem Mod.agree (h : Mod C w w1) {D : Nat → Prop} (hd : ∀ b, D b → b < w.heap.size ∧ ¬ C b) : Agree D w w1 :=
  ⟨h.os, h.tape, h.output, h.size, fun b hb => h.block b (hd b hb).1 (hd b hb).2⟩
theorem Agree.refl (C : Nat → Prop) (w : World) : Agree C w w := ⟨rfl, rfl, rfl, Nat.le_refl _, fun _ _ => rfl⟩
theorem Agree.trans (h : Agree C w w1) (k : Agree C w1 w2) : Agree C w w2 := ⟨k.os.trans h.os, k.tape.trans h.tape, k.output.trans h.output, Nat.le_trans h.size k.size, fun b hb => (k.block b hb).trans (h.block b hb)⟩
theorem Agree.mono (h : Agree C w w1) (hs : ∀ b, C' b → C b) : Agree C' w w1 := ⟨h.os, h.tape, h.output, h.size, fun b hb => h.block b (hs b hb)⟩
theorem Agree.cell (h : Agree C w w1) {p : Addr} (hp : C p.block) : w1.cell? p = w.cell? p := World.cell?_of_block (h.block _ hp)
theorem Agree.frozen (h : Agree C w w1) {p : Addr} (hp : C p.block) : w1.frozen? p = w.frozen? p := World.frozen?_of_block (h.block _ hp)
theorem Agree.below {B : Nat} (h : Below B w w1) (hC : ∀ b, C b → b < B) : Agree C w w1 := ⟨h.os, h.tape, h.output, h.size, fun b hb => h.block b (hC b hb)⟩
end

/-! ### A plain contract within the wide fence -/
section
variable {P : Program} {f : FuncId} {args : Array Value} {w : World} {R R' : Ending → World → Prop} {n : Nat}
theorem ci (c : Calls P f args w R) (h : ∀ e w', R e w' → R' e w') : CallsIn Fence.wide n P f args w R' := (callsIn_wide.2 c).mono h
theorem cir {l : Nat} (c : Calls P f args w R) (h : ∀ e w', R e w' → R' e w') : CallsIn (Fence.wide.inRound l) n P f args w R' := CallsIn.inRound l ((callsIn_wide.2 c).mono h)
end

/-! ### A function's end where it holds ranges over functions -/
section
variable {P : Program} {fn : Func} {R : Ending → World → Prop} {a : Act} {w : World} {v : Value} {n : Nat}
theorem retM0 (hd : a.defers = []) (hr : (results fn a.tmps).run P w = .ok v w) (hR : R (.returned v) w) : bodyPostM Fence.wide n P fn R .ret a w := by
  show LeavesInM _ _ _ _ _ _ a.defers _ _
  rw [hd]; exact ⟨v, hr, hR⟩
theorem endM0 (hd : a.defers = []) (hr : (results fn a.tmps).run P w = .ok v w) (hR : R (.returned v) w) : bodyPostM Fence.wide n P fn R .normal a w := retM0 hd hr hR
theorem retM1 {D : Nat} (hd : a.defers = [{ target := .collected D, args := #[] }]) (hk : w.heap[D]? = some (.deferred (some [])))
    (hr : (results fn a.tmps).run P (w.putObj D (.deferred none)) = .ok v (w.putObj D (.deferred none))) (hR : R (.returned v) (w.putObj D (.deferred none))) : bodyPostM Fence.wide n P fn R .ret a w := by
  show LeavesInM _ _ _ _ _ _ a.defers _ _
  rw [hd]; exact ⟨by simp, .inl ⟨_, _, rfl, run_takeDeferred hk, v, hr, hR⟩⟩
theorem endM1 {D : Nat} (hd : a.defers = [{ target := .collected D, args := #[] }]) (hk : w.heap[D]? = some (.deferred (some [])))
    (hr : (results fn a.tmps).run P (w.putObj D (.deferred none)) = .ok v (w.putObj D (.deferred none))) (hR : R (.returned v) (w.putObj D (.deferred none))) : bodyPostM Fence.wide n P fn R .normal a w := retM1 hd hk hr hR
end

/-! ### A block known whole, through the world's steps -/
section
variable {w w' : World} {b : Nat} {o : Obj} {cs : Array Value} {t : TypeId} {fr : Nat × Nat}
theorem hp_lt (h : w.heap[b]? = some o) : b < w.heap.size := (Array.getElem?_eq_some_iff.1 h).1
theorem hp_alloc (h : w.heap[b]? = some o) (o' : Obj) : (w.alloc o').heap[b]? = some o := (Below.heap_alloc w o' b (hp_lt h)).trans h
theorem hp_new (w : World) (o : Obj) : (w.alloc o).heap[w.heap.size]? = some o := World.alloc_heap_new w o
theorem hp_at (w : World) (o : Obj) {n : Nat} (h : n = w.heap.size) : (w.alloc o).heap[n]? = some o := by subst h; exact hp_new w o
theorem hp_drew (h : w.heap[b]? = some o) : w.drew.heap[b]? = some o := h
theorem hp_drewN (h : w.heap[b]? = some o) (n : Nat) : (w.drewN n).heap[b]? = some o := h
theorem hp_set (h : w.heap[b]? = some (.cells cs t fr)) (i : Nat) (u : Value) : (w.setCell ⟨b, i, none⟩ u).heap[b]? = some (.cells (cs.setIfInBounds i u) t fr) := by
  simp [World.setCell, Array.getElem?_modify, h]
theorem hp_far (h : w.heap[b]? = some o) {p : Addr} (hne : b ≠ p.block) (u : Value) : (w.setCell p u).heap[b]? = some o := (Below.heap_setCell w p u b hne).trans h
theorem hp_below {B : Nat} (h : w.heap[b]? = some o) (hb : Below B w w') (hlt : b < B) : w'.heap[b]? = some o := (hb.block b hlt).trans h
theorem hp_mod {C : Nat → Prop} (h : w.heap[b]? = some o) (hm : Mod C w w') (hn : ¬ C b) : w'.heap[b]? = some o := (hm.block b (hp_lt h) hn).trans h
theorem hp_agree {C : Nat → Prop} (h : w.heap[b]? = some o) (hm : Agree C w w') (hn : C b) : w'.heap[b]? = some o := (hm.block b hn).trans h
theorem hp_eq {cs' : Array Value} (h : w.heap[b]? = some (.cells cs t fr)) (e : cs = cs') : w.heap[b]? = some (.cells cs' t fr) := by rw [h, e]
theorem hp_cell (h : w.heap[b]? = some (.cells cs t fr)) (i : Nat) : w.cell? ⟨b, i, none⟩ = cs[i]? := by simp [World.cell?, h]
theorem hp_free (h : w.heap[b]? = some (.cells cs t (0, 0))) (i : Nat) : w.frozen? ⟨b, i, none⟩ = false := by simp [World.frozen?, h]
end

/-! ### Iterators over a fixed list -/

/-- The consumer's word abides whatever leaves its own blocks as they are. -/
def Stab (J : Nat → (Nat → Prop) → World → Prop) : Prop := ∀ k C W W', J k C W → Agree C W W' → J k C W'

/-- What a step of the consumer's leaves: its word at k; only its own blocks turned; what it owns now it owned, or it is new. -/
def Rnd (J : Nat → (Nat → Prop) → World → Prop) (k : Nat) (C : Nat → Prop) (W W' : World) : Prop :=
  ∃ C', J k C' W' ∧ Mod C W W' ∧ ∀ b, C' b → b < W'.heap.size ∧ (C b ∨ W.heap.size ≤ b)

/-- A call of yield in the wide fence. -/
def Yields (P : Program) (l : Nat) (args : Array Value) (W : World) (R : Ending → World → Prop) : Prop :=
  ∃ fn tmps assign body, (Instr.yield l args).run P W = .ok (.round l fn tmps assign body) W ∧ ∀ m, RoundIn Fence.wide m P l fn tmps assign body W R

/-- The two ways of a round, in one word. -/
def Two (J Jx : Nat → (Nat → Prop) → World → Prop) (k : Nat) (C : Nat → Prop) (W : World) (b : Bool) (W' : World) : Prop := (b = true ∧ Rnd J k C W W') ∨ (b = false ∧ Rnd Jx k C W W')
theorem Yields.two {P : Program} {l : Nat} {args : Array Value} {W : World} {J Jx : Nat → (Nat → Prop) → World → Prop} {k : Nat} {C : Nat → Prop}
    (h : Yields P l args W fun e W2 => (e = .returned (.bool true) ∧ Rnd J k C W W2) ∨ (e = .returned (.bool false) ∧ Rnd Jx k C W W2)) :
    Yields P l args W fun e W2 => ∃ b, e = .returned (.bool b) ∧ Two J Jx k C W b W2 := by
  obtain ⟨fn, tmps, assign, body, hy, hR⟩ := h
  refine ⟨fn, tmps, assign, body, hy, fun m => (hR m).mono ?_⟩
  rintro e W2 (⟨rfl, h⟩ | ⟨rfl, h⟩)
  · exact ⟨true, rfl, .inl ⟨rfl, h⟩⟩
  · exact ⟨false, rfl, .inr ⟨rfl, h⟩⟩

/-- The function g with captured lb, called with a yield, goes over encs, in order; it reads blocks of D alone, that are as they were in w0. -/
def Iter (P : Program) (g : Nat) (lb : Array Value) (encs : List (Array Value)) (D : Nat → Prop) (w0 : World) : Prop :=
  ∀ (l : Nat) (J Jx : Nat → (Nat → Prop) → World → Prop) (C0 : Nat → Prop) (W : World), Agree D w0 W → (∀ b, C0 b → b < W.heap.size ∧ ¬ D b) → Stab J → Stab Jx →
    (∀ (k : Nat) (hk : k < encs.length) (C : Nat → Prop) (W1 : World), J k C W1 → Mod C0 W W1 → (∀ b, C b → b < W1.heap.size ∧ (C0 b ∨ W.heap.size ≤ b)) →
      Yields P l encs[k] W1 fun e W2 => (e = .returned (.bool true) ∧ Rnd J (k + 1) C W1 W2) ∨ (e = .returned (.bool false) ∧ Rnd Jx (k + 1) C W1 W2)) →
    J 0 C0 W →
    Calls P g (#[.func (.yield l) #[] #[]] ++ lb) W fun e W' => (∃ v, e = .returned v) ∧ (Rnd J encs.length C0 W W' ∨ ∃ k, 0 < k ∧ k ≤ encs.length ∧ Rnd Jx k C0 W W')

theorem Iter.later {P : Program} {g : Nat} {lb : Array Value} {encs : List (Array Value)} {D : Nat → Prop} {w0 w1 : World} (h : Iter P g lb encs D w0) (ha : Agree D w0 w1) : Iter P g lb encs D w1 :=
  fun l J Jx C0 W hA hC hJ hJx hY h0 => h l J Jx C0 W (ha.trans hA) hC hJ hJx hY h0

theorem Iter.more {P : Program} {g : Nat} {lb : Array Value} {encs : List (Array Value)} {D D' : Nat → Prop} {w0 : World} (h : Iter P g lb encs D w0) (hs : ∀ b, D b → D' b) : Iter P g lb encs D' w0 :=
  fun l J Jx C0 W hA hC hJ hJx hY h0 => h l J Jx C0 W (hA.mono hs) (fun b hb => ⟨(hC b hb).1, fun hd => (hC b hb).2 (hs b hd)⟩) hJ hJx hY h0

theorem round_any {n : Nat} {P : Program} {l : Nat} {f : FuncId} {tmps : Array Value} {assign body : Code} {w : World} {R : Ending → World → Prop}
    (h : RoundIn Fence.wide n P l f tmps assign body w R) (m : Nat) : RoundIn Fence.wide m P l f tmps assign body w R :=
  ⟨trivial, fun c cs _ => h.2 c cs (room_wide _)⟩

/-- How the body of a round may be left. -/
def rndPost (I : Nat → (Nat → Prop) → World → Prop) (Ix : Code → Nat → (Nat → Prop) → World → Prop) (k : Nat) (C : Nat → Prop) (W : World) : Exit → Act → World → Prop
  | .normal, _, W' => Rnd I k C W W'
  | .ret, _, W' => Rnd (Ix .ret) k C W W'
  | .exit id, _, W' => Rnd (Ix (.exit id)) k C W W'
  | .goto t, _, W' => Rnd (Ix (.goto t)) k C W W'
  | .panic _, _, _ => False
  | .outgrown, _, _ => False

theorem Rnd.of_refl {J : Nat → (Nat → Prop) → World → Prop} {k : Nat} {C : Nat → Prop} {W : World} (h : J k C W) (hC : ∀ b, C b → b < W.heap.size) : Rnd J k C W W :=
  ⟨C, h, Mod.refl _ _, fun b hb => ⟨hC b hb, .inl hb⟩⟩

/-- A consumer's word, with further blocks S of one's own, of which Φ is said. -/
def Ext (J : Nat → (Nat → Prop) → World → Prop) (S : Nat → Prop) (Φ : Nat → World → Prop) (k : Nat) (C : Nat → Prop) (W : World) : Prop :=
  ∃ C1, J k C1 W ∧ C = (fun b => C1 b ∨ S b) ∧ (∀ b, S b → ¬ C1 b) ∧ Φ k W
theorem Ext.stab {J : Nat → (Nat → Prop) → World → Prop} {S : Nat → Prop} {Φ : Nat → World → Prop} (hJ : Stab J) (hΦ : ∀ k W W', Φ k W → Agree S W W' → Φ k W') : Stab (Ext J S Φ) := by
  rintro k C W W' ⟨C1, hj, rfl, hd, hp⟩ hA
  exact ⟨C1, hJ _ _ _ _ hj (hA.mono fun b hb => .inl hb), rfl, hd, hΦ _ _ _ hp (hA.mono fun b hb => .inr hb)⟩

section
variable {P : Program}

/-- What a loop of the wide fence (itself within a round of l₀, or not) owes: the record's own block for deferred calls. -/
theorem wpIn_range {g : Operand} {ps : Array Tmp} {assign body : Code} {Q : Exit → Act → World → Prop} {a : Act} {w : World} {n : Nat} {ro : Option Nat}
    {gf : Nat} {lb : Array Value} (hg : a.eval g = .func (.func gf) #[] lb) (eg : ∀ args w, (callFunc gf args).run P w = .ok (.enter gf args) w)
    {encs : List (Array Value)} {D : Nat → Prop} (it : Iter P gf lb encs D w) (hD : ∀ b, D b → b < w.heap.size)
    (hps : ∀ x ∈ encs, x.size = ps.size)
    (I : Nat → (Nat → Prop) → World → Prop) (Ix : Code → Nat → (Nat → Prop) → World → Prop) (Ax : Act → Nat → (Nat → Prop) → World → Prop)
    (hI : Stab I) (hIx : ∀ c, Stab (Ix c)) (hAx : ∀ a', Stab (Ax a'))
    (C0 : Nat → Prop) (hC0 : ∀ b, C0 b → b < w.heap.size ∧ ¬ D b) (h0 : I 0 C0 w)
    (henter : ∀ fn, ∃ l mark W1, l < W1.heap.size ∧ w.heap.size ≤ l ∧
      (Instr.enterLoop fn a.tmps ps assign body ro).run P w = .ok (l, mark) W1 ∧
      (∃ dd, W1.heap[l]? = some (.loop { state := .ready, pending := none, fn, tmps := a.tmps, params := ps, assign, body, defers := dd })) ∧ Mod (fun _ => False) w W1 ∧
      (∀ (W' : World) (C' : Nat → Prop), I encs.length C' W' → Mod C0 w W' → (∀ b, C' b → b < W'.heap.size ∧ (C0 b ∨ w.heap.size ≤ b)) → ¬ C' l →
        (∀ b, b < W1.heap.size → ¬ C0 b → w.heap.size ≤ b → b ≠ l → W'.heap[b]? = W1.heap[b]? ∧ ¬ C' b) → Q .normal { a with defers := mark ++ a.defers } W') ∧
      (∀ (W' : World) (C' : Nat → Prop) (c : Code) (k : Nat), 0 < k → k ≤ encs.length → Ix c k C' W' → Mod C0 w W' → (∀ b, C' b → b < W'.heap.size ∧ (C0 b ∨ w.heap.size ≤ b)) → ¬ C' l →
        (∀ b, b < W1.heap.size → ¬ C0 b → w.heap.size ≤ b → b ≠ l → W'.heap[b]? = W1.heap[b]? ∧ ¬ C' b) → c.wpIn { Fence.wide with round := ro } n P Q { a with defers := mark ++ a.defers } W'))
    (hassign : ∀ (l k : Nat) (hk : k < encs.length) (C : Nat → Prop) (W : World), I k C W → Mod C0 w W → (∀ b, C b → b < W.heap.size ∧ (C0 b ∨ w.heap.size ≤ b)) →
      assign.wpIn (Fence.wide.inRound l) 0 P (Exit.then (fun a' W' => Rnd (Ax a') k C W W') (fun _ _ _ => False))
        { tmps := (ps.zip encs[k]).foldl (fun t (p, v) => t.setIfInBounds p v) a.tmps, defers := [] } W)
    (hbody : ∀ (l k : Nat) (_ : k < encs.length) (C : Nat → Prop) (a' : Act) (W : World), Ax a' k C W → Mod C0 w W → (∀ b, C b → b < W.heap.size ∧ (C0 b ∨ w.heap.size ≤ b)) →
      (∃ r, W.heap[l]? = some (.loop r)) → ¬ C l → w.heap.size ≤ l →
      body.wpIn (Fence.wide.inRound l) 0 P (rndPost I Ix (k + 1) C W) a' W) :
    (Code.rangeFunc g ps assign body).wpIn { Fence.wide with round := ro } n P Q a w := by
  refine wpIn_rangeFunc ?_
  intro fn _
  obtain ⟨l, mark, W1, hl1, hlw, hrun, ⟨dd, hrec⟩, hm1, hdone, hstop⟩ := henter fn
  obtain ⟨rec, hreceq⟩ : ∃ rec : LoopState → Option Code → Loop, rec = fun st pe => { state := st, pending := pe, fn, tmps := a.tmps, params := ps, assign, body, defers := dd } := ⟨_, rfl⟩
  have hrec' : W1.heap[l]? = some (.loop (rec .ready none)) := by rw [hreceq]; exact hrec
  have hA1 : ∀ {E : Nat → Prop}, (∀ b, E b → b < w.heap.size) → Agree E w W1 := fun hE => hm1.agree (fun b hb => ⟨hE b hb, id⟩)
  have hI1 : I 0 C0 W1 := hI _ _ _ _ h0 (hA1 (fun b hb => (hC0 b hb).1))
  refine ⟨l, mark, W1, { target := .fn (.func gf) lb, args := #[.func (.yield l) #[] #[]] }, W1, gf, #[.func (.yield l) #[] #[]] ++ lb, W1, hrun, ?_, fun _ _ => trivial, ?_, fun _ => by simp_all [Fence.wide], ?_⟩
  · simp only [resolve, hg]
    simp [go_sem]
  · simp [invoke, go_sem, eg]
  -- the consumer's word, with the record
  let J : Nat → (Nat → Prop) → World → Prop := fun k C W => ∃ C', I k C' W ∧ C = (fun b => C' b ∨ b = l) ∧ ¬ C' l ∧ W.heap[l]? = some (.loop (rec .ready none)) ∧ (∀ b, b < W1.heap.size → ¬ C0 b → w.heap.size ≤ b → ¬ C' b)
  let Jx : Nat → (Nat → Prop) → World → Prop := fun k C W => ∃ C' c, Ix c k C' W ∧ C = (fun b => C' b ∨ b = l) ∧ ¬ C' l ∧ W.heap[l]? = some (.loop (rec .done (some c))) ∧ (∀ b, b < W1.heap.size → ¬ C0 b → w.heap.size ≤ b → ¬ C' b)
  have hJ : Stab J := by
    rintro k C W W' ⟨C', hi, rfl, hn, hl, hx⟩ hA
    exact ⟨C', hI _ _ _ _ hi (hA.mono fun b hb => .inl hb), rfl, hn, (hA.block l (.inr rfl)).trans hl, hx⟩
  have hJx : Stab Jx := by
    rintro k C W W' ⟨C', c, hi, rfl, hn, hl, hx⟩ hA
    exact ⟨C', c, hIx c _ _ _ _ hi (hA.mono fun b hb => .inl hb), rfl, hn, (hA.block l (.inr rfl)).trans hl, hx⟩
  have hcall := it l J Jx (fun b => C0 b ∨ b = l) W1 (hA1 hD)
    (fun b hb => by
      rcases hb with hb | hb
      · exact ⟨by have := (hC0 b hb).1; have := hm1.size; omega, (hC0 b hb).2⟩
      · subst hb; exact ⟨hl1, fun hd => by have := hD _ hd; omega⟩) hJ hJx ?_ ⟨C0, hI1, rfl, fun hc => by have := (hC0 l hc).1; omega, hrec', fun b _ hn _ => hn⟩
  · -- behind the iterator
    refine (callsIn_wide.2 hcall).mono ?_
    have hfin : ∀ {C1 : Nat → Prop} {W2 : World}, Mod (fun b => C0 b ∨ b = l) W1 W2 → (∀ b, C1 b ∨ b = l → b < W2.heap.size ∧ ((C0 b ∨ b = l) ∨ W1.heap.size ≤ b)) → ¬ C1 l →
        (∀ b, b < W1.heap.size → ¬ C0 b → w.heap.size ≤ b → ¬ C1 b) → ∀ o,
        Mod C0 w (W2.putObj l o) ∧ (∀ b, C1 b → b < (W2.putObj l o).heap.size ∧ (C0 b ∨ w.heap.size ≤ b)) ∧ Agree C1 W2 (W2.putObj l o) ∧
        (∀ b, b < W1.heap.size → ¬ C0 b → w.heap.size ≤ b → b ≠ l → (W2.putObj l o).heap[b]? = W1.heap[b]? ∧ ¬ C1 b) := by
      intro C1 W2 hm hb hn hx o
      refine ⟨?_, fun b hc => ?_, ?_, fun b hb1 hb2 hb3 hb4 => ⟨?_, hx b hb1 hb2 hb3⟩⟩
      · refine Mod.putObj ?_ (.inr hlw) o
        refine (hm1.mono (fun _ _ h => h.elim) : Mod C0 w W1).trans hm (fun b hb => ?_)
        rcases hb with hb | hb
        · exact .inl hb
        · subst hb; exact .inr hlw
      · have := hb b (.inl hc)
        refine ⟨by simpa using this.1, ?_⟩
        rcases this.2 with (h | h) | h
        · exact .inl h
        · subst h; exact .inr hlw
        · exact .inr (by have := hm1.size; omega)
      · exact ⟨rfl, rfl, rfl, by simp, fun b hcb => World.putObj_heap_other (fun e => by subst e; exact hn hcb)⟩
      · exact (World.putObj_heap_other hb4).trans (hm.block b hb1 (fun h => h.elim hb2 hb4))
    rintro e W2 ⟨⟨v, rfl⟩, h⟩
    rcases h with ⟨C', ⟨C1, hi, rfl, hn, hl, hx⟩, hm, hb⟩ | ⟨k, hk0, hk1, C', ⟨C1, c, hi, rfl, hn, hl, hx⟩, hm, hb⟩
    · obtain ⟨f1, f2, f3, f4⟩ := hfin hm hb hn hx (.loop { rec .ready none with state := .exhausted })
      exact ⟨none, _, by have := run_endLoop (P := P) hl (by rw [hreceq]; simp); rw [hreceq] at this ⊢; exact this, hdone _ C1 (hI _ _ _ _ hi f3) f1 f2 hn f4⟩
    · obtain ⟨f1, f2, f3, f4⟩ := hfin hm hb hn hx (.loop { rec .done (some c) with state := .exhausted })
      exact ⟨some c, _, by have := run_endLoop (P := P) hl (by rw [hreceq]; simp); rw [hreceq] at this ⊢; exact this, hstop _ C1 c k hk0 hk1 (hIx c _ _ _ _ hi f3) f1 f2 hn f4⟩
  · -- one round
    rintro k hk C W2 ⟨C1, hi, rfl, hn, hl, hx⟩ hm hb
    have hbC1 : ∀ b, C1 b → b < W2.heap.size ∧ (C0 b ∨ w.heap.size ≤ b) := fun b hc => by
      have := hb b (.inl hc)
      refine ⟨this.1, ?_⟩
      rcases this.2 with (h | h) | h
      · exact .inl h
      · subst h; exact .inr hlw
      · exact .inr (by have := hm1.size; omega)
    have hmw : Mod C0 w W2 := (hm1.mono (fun _ _ h => h.elim) : Mod C0 w W1).trans hm (fun b hb => by
      rcases hb with hb | hb
      · exact .inl hb
      · subst hb; exact .inr hlw)
    have hy := run_yield (P := P) (args := encs[k]) hl (by rw [hreceq]; exact hps _ (List.getElem_mem hk))
    rw [hreceq] at hy
    refine ⟨fn, _, assign, body, hy, fun m => round_any (n := 0) ?_ m⟩
    clear hy
    refine roundIn_of_wpIn trivial (wpIn_mono (hassign l k hk C1 W2 hi hmw hbC1) ?_)
    rintro e a' W3 h3
    cases e with
    | normal =>
      obtain ⟨C2, hax, hm3, hb3⟩ := h3
      have hlt2 : l < W2.heap.size := (Array.getElem?_eq_some_iff.1 hl).1
      have hn2 : ¬ C2 l := fun hc => by rcases (hb3 l hc).2 with h | h; exact hn h; omega
      have hl3 : W3.heap[l]? = some (.loop (rec .ready none)) := (hm3.block l hlt2 hn).trans hl
      have hlt3 : l < W3.heap.size := (Array.getElem?_eq_some_iff.1 hl3).1
      refine ⟨_, run_beginRound hl3 (by rw [hreceq]), ?_⟩
      have hl4 : (W3.putObj l (.loop { rec .ready none with state := .busy })).heap[l]? = some (.loop { rec .ready none with state := .busy }) := World.putObj_heap_same hlt3
      have hax4 : Ax a' k C2 (W3.putObj l (.loop { rec .ready none with state := .busy })) :=
        hAx a' _ _ _ _ hax ⟨rfl, rfl, rfl, by simp, fun b hcb => World.putObj_heap_other (fun e => by subst e; exact hn2 hcb)⟩
      have hmw4 : Mod C0 w (W3.putObj l (.loop { rec .ready none with state := .busy })) :=
        (hmw.trans hm3 (fun b hb => (hbC1 b hb).2)).putObj (.inr hlw) _
      have hbw4 : ∀ b, C2 b → b < (W3.putObj l (.loop { rec .ready none with state := .busy })).heap.size ∧ (C0 b ∨ w.heap.size ≤ b) := fun b hb => by
        have := hb3 b hb
        refine ⟨by simpa using this.1, ?_⟩
        rcases this.2 with h | h
        · exact (hbC1 b h).2
        · exact .inr (by have := hmw.size; omega)
      refine wpIn_mono (hbody l k hk C2 a' _ hax4 hmw4 hbw4 ⟨_, hl4⟩ hn2 hlw) ?_
      have fin : ∀ (Z : Nat → (Nat → Prop) → World → Prop) (_ : Stab Z) (jump : Option Code) (W5 : World), Rnd Z (k + 1) C2 (W3.putObj l (.loop { rec .ready none with state := .busy })) W5 →
          ∃ W6, (Instr.endRound l jump).run P W5 = .ok (.bool jump.isNone) W6 ∧
            ∃ C3, Z (k + 1) C3 W6 ∧ ¬ C3 l ∧ W6.heap[l]? = some (.loop (rec (if jump.isNone then .ready else .done) jump)) ∧ (∀ b, b < W1.heap.size → ¬ C0 b → w.heap.size ≤ b → ¬ C3 b) ∧
              Mod (fun b => C1 b ∨ b = l) W2 W6 ∧ (∀ b, C3 b ∨ b = l → b < W6.heap.size ∧ ((C1 b ∨ b = l) ∨ W2.heap.size ≤ b)) := by
        rintro Z hZ jump W5 ⟨C3, hz, hm5, hb5⟩
        have hl5 : W5.heap[l]? = some (.loop { rec .ready none with state := .busy }) := (hm5.block l (by simpa using hlt3) hn2).trans hl4
        have hlt5 : l < W5.heap.size := (Array.getElem?_eq_some_iff.1 hl5).1
        have hn3 : ¬ C3 l := fun hc => by rcases (hb5 l hc).2 with h | h; exact hn2 h; simp at h; omega
        have hr := run_endRound (P := P) jump hl5
        refine ⟨_, hr, C3, hZ _ _ _ _ hz ⟨rfl, rfl, rfl, by simp, fun b hcb => World.putObj_heap_other (fun e => by subst e; exact hn3 hcb)⟩, hn3, ?_, fun b hb1 hb2 hb3' hc => ?_, ?_, fun b hb => ?_⟩
        · rw [hreceq]; exact World.putObj_heap_same hlt5
        · have hs1 := hm.size
          have hs3 := hm3.size
          rcases (hb5 b hc).2 with h | h
          · rcases (hb3 b h).2 with h' | h'
            · exact hx b hb1 hb2 hb3' h'
            · omega
          · simp at h; omega
        · have h23 : Mod (fun b => C1 b ∨ b = l) W2 W3 := hm3.mono (fun _ _ h => .inl h)
          refine Mod.putObj ((h23.putObj (.inl (.inr rfl)) _).trans hm5 (fun b hb => ?_)) (.inl (.inr rfl)) _
          rcases (hb3 b hb).2 with h | h
          · exact .inl (.inl h)
          · exact .inr h
        · have hs3 := hm3.size
          rcases hb with hb | hb
          · refine ⟨by simpa using (hb5 b hb).1, ?_⟩
            rcases (hb5 b hb).2 with h | h
            · rcases (hb3 b h).2 with h' | h'
              · exact .inl (.inl h')
              · exact .inr h'
            · exact .inr (by simp at h; omega)
          · subst hb; exact ⟨by simpa using hlt5, .inl (.inr rfl)⟩
      rintro e a3 W5 hp
      cases e with
      | normal =>
        obtain ⟨W6, hr, C3, hz, h1, h2, h3, h4, h5⟩ := fin I hI none W5 hp
        exact ⟨_, _, hr, .inl ⟨rfl, _, ⟨C3, hz, rfl, h1, h2, h3⟩, h4, h5⟩⟩
      | ret =>
        obtain ⟨W6, hr, C3, hz, h1, h2, h3, h4, h5⟩ := fin _ (hIx _) (some .ret) W5 hp
        exact ⟨_, _, hr, .inr ⟨rfl, _, ⟨C3, _, hz, rfl, h1, h2, h3⟩, h4, h5⟩⟩
      | exit id =>
        obtain ⟨W6, hr, C3, hz, h1, h2, h3, h4, h5⟩ := fin _ (hIx _) (some (.exit id)) W5 hp
        exact ⟨_, _, hr, .inr ⟨rfl, _, ⟨C3, _, hz, rfl, h1, h2, h3⟩, h4, h5⟩⟩
      | goto t =>
        obtain ⟨W6, hr, C3, hz, h1, h2, h3, h4, h5⟩ := fin _ (hIx _) (some (.goto t)) W5 hp
        exact ⟨_, _, hr, .inr ⟨rfl, _, ⟨C3, _, hz, rfl, h1, h2, h3⟩, h4, h5⟩⟩
      | panic ch => exact hp.elim
      | outgrown => exact hp.elim
    | ret => exact h3.elim
    | exit id => exact h3.elim
    | goto t => exact h3.elim
    | panic ch => exact h3.elim
    | outgrown => exact h3.elim

/-- A range over an iterator in a function's own activation. -/
theorem wp_range {g : Operand} {ps : Array Tmp} {assign body : Code} {Q : Exit → Act → World → Prop} {a : Act} {w : World} {n : Nat}
    {gf : Nat} {lb : Array Value} (hg : a.eval g = .func (.func gf) #[] lb) (eg : ∀ args w, (callFunc gf args).run P w = .ok (.enter gf args) w)
    {encs : List (Array Value)} {D : Nat → Prop} (it : Iter P gf lb encs D w) (hD : ∀ b, D b → b < w.heap.size)
    (hps : ∀ x ∈ encs, x.size = ps.size)
    (I : Nat → (Nat → Prop) → World → Prop) (Ix : Code → Nat → (Nat → Prop) → World → Prop) (Ax : Act → Nat → (Nat → Prop) → World → Prop)
    (hI : Stab I) (hIx : ∀ c, Stab (Ix c)) (hAx : ∀ a', Stab (Ax a'))
    (C0 : Nat → Prop) (hC0 : ∀ b, C0 b → b < w.heap.size ∧ ¬ D b) (h0 : I 0 C0 w)
    (hassign : ∀ (l k : Nat) (hk : k < encs.length) (C : Nat → Prop) (W : World), I k C W → Mod C0 w W → (∀ b, C b → b < W.heap.size ∧ (C0 b ∨ w.heap.size ≤ b)) →
      assign.wpIn (Fence.wide.inRound l) 0 P (Exit.then (fun a' W' => Rnd (Ax a') k C W W') (fun _ _ _ => False))
        { tmps := (ps.zip encs[k]).foldl (fun t (p, v) => t.setIfInBounds p v) a.tmps, defers := [] } W)
    (hbody : ∀ (l k : Nat) (_ : k < encs.length) (C : Nat → Prop) (a' : Act) (W : World), Ax a' k C W → Mod C0 w W → (∀ b, C b → b < W.heap.size ∧ (C0 b ∨ w.heap.size ≤ b)) →
      (∃ r, W.heap[l]? = some (.loop r)) → ¬ C l → w.heap.size ≤ l →
      body.wpIn (Fence.wide.inRound l) 0 P (rndPost I Ix (k + 1) C W) a' W)
    (hdone : ∀ (W' : World) (C' : Nat → Prop), I encs.length C' W' → Mod C0 w W' → (∀ b, C' b → b < W'.heap.size ∧ (C0 b ∨ w.heap.size ≤ b)) →
      W'.heap[w.heap.size]? = some (.deferred (some [])) → ¬ C' w.heap.size → Q .normal { a with defers := { target := .collected w.heap.size, args := #[] } :: a.defers } W')
    (hstop : ∀ (W' : World) (C' : Nat → Prop) (c : Code) (k : Nat), 0 < k → k ≤ encs.length → Ix c k C' W' → Mod C0 w W' → (∀ b, C' b → b < W'.heap.size ∧ (C0 b ∨ w.heap.size ≤ b)) →
      W'.heap[w.heap.size]? = some (.deferred (some [])) → ¬ C' w.heap.size → c.wpIn Fence.wide n P Q { a with defers := { target := .collected w.heap.size, args := #[] } :: a.defers } W') :
    (Code.rangeFunc g ps assign body).wpIn Fence.wide n P Q a w := by
  refine wpIn_range (ro := none) hg eg it hD hps I Ix Ax hI hIx hAx C0 hC0 h0 (fun fn => ?_) hassign hbody
  have hr := run_enterLoop_outer (P := P) (w := w) fn a.tmps ps assign body
  have hsz : ((w.alloc (.deferred (some []))).alloc (.loop { state := .ready, pending := none, fn, tmps := a.tmps, params := ps, assign, body, defers := w.heap.size })).heap.size = w.heap.size + 2 := by simp
  have hk1 : ((w.alloc (.deferred (some []))).alloc (.loop { state := .ready, pending := none, fn, tmps := a.tmps, params := ps, assign, body, defers := w.heap.size })).heap[w.heap.size]? = some (.deferred (some [])) :=
    (Below.heap_alloc _ _ _ (by simp)).trans (World.alloc_heap_new w _)
  refine ⟨w.heap.size + 1, _, _, by rw [hsz]; omega, by omega, hr, ⟨w.heap.size, ?_⟩, ((Mod.refl _ w).alloc _).alloc _, fun W' C' hi hm hb hl hx => ?_, fun W' C' c k hk0 hk1' hi hm hb hl hx => ?_⟩
  · have := World.alloc_heap_new (w.alloc (.deferred (some []))) (.loop { state := .ready, pending := none, fn, tmps := a.tmps, params := ps, assign, body, defers := w.heap.size })
    rwa [World.size_alloc] at this
  · obtain ⟨h1, h2⟩ := hx w.heap.size (by rw [hsz]; omega) (fun hc => by have := (hC0 _ hc).1; omega) (Nat.le_refl _) (by omega)
    exact hdone W' C' hi hm hb (h1.trans hk1) h2
  · obtain ⟨h1, h2⟩ := hx w.heap.size (by rw [hsz]; omega) (fun hc => by have := (hC0 _ hc).1; omega) (Nat.le_refl _) (by omega)
    exact hstop W' C' c k hk0 hk1' hi hm hb (h1.trans hk1) h2

/-- A range over an iterator in a round of the loop l₀. -/
theorem wp_range_in {g : Operand} {ps : Array Tmp} {assign body : Code} {Q : Exit → Act → World → Prop} {a : Act} {w : World} {n l₀ : Nat} {r₀ : Loop} (hl₀ : w.heap[l₀]? = some (.loop r₀))
    {gf : Nat} {lb : Array Value} (hg : a.eval g = .func (.func gf) #[] lb) (eg : ∀ args w, (callFunc gf args).run P w = .ok (.enter gf args) w)
    {encs : List (Array Value)} {D : Nat → Prop} (it : Iter P gf lb encs D w) (hD : ∀ b, D b → b < w.heap.size)
    (hps : ∀ x ∈ encs, x.size = ps.size)
    (I : Nat → (Nat → Prop) → World → Prop) (Ix : Code → Nat → (Nat → Prop) → World → Prop) (Ax : Act → Nat → (Nat → Prop) → World → Prop)
    (hI : Stab I) (hIx : ∀ c, Stab (Ix c)) (hAx : ∀ a', Stab (Ax a'))
    (C0 : Nat → Prop) (hC0 : ∀ b, C0 b → b < w.heap.size ∧ ¬ D b) (h0 : I 0 C0 w)
    (hassign : ∀ (l k : Nat) (hk : k < encs.length) (C : Nat → Prop) (W : World), I k C W → Mod C0 w W → (∀ b, C b → b < W.heap.size ∧ (C0 b ∨ w.heap.size ≤ b)) →
      assign.wpIn (Fence.wide.inRound l) 0 P (Exit.then (fun a' W' => Rnd (Ax a') k C W W') (fun _ _ _ => False))
        { tmps := (ps.zip encs[k]).foldl (fun t (p, v) => t.setIfInBounds p v) a.tmps, defers := [] } W)
    (hbody : ∀ (l k : Nat) (_ : k < encs.length) (C : Nat → Prop) (a' : Act) (W : World), Ax a' k C W → Mod C0 w W → (∀ b, C b → b < W.heap.size ∧ (C0 b ∨ w.heap.size ≤ b)) →
      (∃ r, W.heap[l]? = some (.loop r)) → ¬ C l → w.heap.size ≤ l →
      body.wpIn (Fence.wide.inRound l) 0 P (rndPost I Ix (k + 1) C W) a' W)
    (hdone : ∀ (W' : World) (C' : Nat → Prop), I encs.length C' W' → Mod C0 w W' → (∀ b, C' b → b < W'.heap.size ∧ (C0 b ∨ w.heap.size ≤ b)) → Q .normal a W')
    (hstop : ∀ (W' : World) (C' : Nat → Prop) (c : Code) (k : Nat), 0 < k → k ≤ encs.length → Ix c k C' W' → Mod C0 w W' → (∀ b, C' b → b < W'.heap.size ∧ (C0 b ∨ w.heap.size ≤ b)) →
      c.wpIn (Fence.wide.inRound l₀) n P Q a W') :
    (Code.rangeFunc g ps assign body).wpIn (Fence.wide.inRound l₀) n P Q a w := by
  refine wpIn_range (ro := some l₀) hg eg it hD hps I Ix Ax hI hIx hAx C0 hC0 h0 (fun fn => ?_) hassign hbody
  have hr := run_enterLoop_inner (P := P) hl₀ fn a.tmps ps assign body
  refine ⟨w.heap.size, _, _, by simp, by omega, hr, ⟨r₀.defers, World.alloc_heap_new w _⟩, (Mod.refl _ w).alloc _, fun W' C' hi hm hb hl hx => ?_, fun W' C' c k hk0 hk1' hi hm hb hl hx => ?_⟩
  · exact hdone W' C' hi hm hb
  · exact hstop W' C' c k hk0 hk1' hi hm hb
end

/-! ### Slices of a type: read, and owned -/
theorem ob_len {A : Option Addr} {n c m c' : Nat} : (Value.slice A n c).ownBlock = (Value.slice A m c').ownBlock := by cases A <;> rfl


/-- The slice at A holds the elements xs, of sz cells each, in a block of D. -/
def Rd {α : Type} (D : Nat → Prop) (w : World) (sz : Nat) (cs : α → List Value) (A : Option Addr) (xs : List α) : Prop :=
  0 < xs.length → ∃ b off, A = some ⟨b, off, none⟩ ∧ D b ∧ ∀ k (h : k < xs.length) j u, (cs xs[k])[j]? = some u → w.cell? ⟨b, off + k * sz + j, none⟩ = some u

/-- The slice value v has the elements xs, in a row of its own from base on (or is nil, without elements). -/
def OwnS {α : Type} (base E sz : Nat) (cs : α → List Value) (w : World) (v : Value) (xs : List α) : Prop := w.ownsRow base E sz v xs.length (xs.flatMap cs)

/-- What is told of a slice type: its element's cells and bytes. -/
structure SliceT (P : Program) (T E sz bytes : Nat) : Prop where
  und : P.underlying T = some (.slice E)
  inf : ∃ i z, P.info? E = some i ∧ i.zero = some z ∧ i.size = sz ∧ i.bytes = bytes ∧ z.cells.size = sz
  pos : 0 < sz

theorem SliceT.mk' {P : Program} {T E sz bytes : Nat} {z : Value} (h : P.underlying T = some (.slice E)) (hi : (P.info? E).map (fun i => (i.zero, i.size, i.bytes)) = some (some z, sz, bytes)) (hz : z.cells.size = sz) (hp : 0 < sz) : SliceT P T E sz bytes := by
  obtain ⟨i, h1, h2, h3, h4⟩ := info_parts hi
  exact ⟨h, ⟨i, z, h1, h2, h3, h4, hz⟩, hp⟩

section
variable {α : Type} {D D' : Nat → Prop} {w w' : World} {sz : Nat} {cs : α → List Value} {A : Option Addr} {xs ys : List α} {base E : Nat} {v : Value}

theorem addr_add (b off j : Nat) : (⟨b, off, none⟩ : Addr).add j = ⟨b, off + j, none⟩ := by unfold Addr.add; split <;> simp_all

theorem flat_length (hcs : ∀ x, (cs x).length = sz) (xs : List α) : (xs.flatMap cs).length = xs.length * sz := by
  induction xs with
  | nil => simp
  | cons x r ih => simp [List.flatMap_cons, hcs, ih, Nat.add_mul, Nat.add_comm]
theorem flat_get (hcs : ∀ x, (cs x).length = sz) : ∀ (xs : List α) (k : Nat) (h : k < xs.length) (j : Nat), j < sz → (xs.flatMap cs)[k * sz + j]? = (cs xs[k])[j]?
  | [], k, h, _, _ => by simp at h
  | x :: r, 0, _, j, hj => by simp [List.flatMap_cons, List.getElem?_append_left, hcs, hj]
  | x :: r, k + 1, h, j, hj => by
    rw [List.flatMap_cons, List.getElem?_append_right (by rw [hcs, Nat.add_mul]; omega)]
    have : (k + 1) * sz + j - (cs x).length = k * sz + j := by rw [hcs, Nat.add_mul]; omega
    rw [this, flat_get hcs r k (by simpa using h) j hj]
    rfl

theorem Rd.nil (D : Nat → Prop) (w : World) (sz : Nat) (cs : α → List Value) (A : Option Addr) : Rd D w sz cs A [] := fun h => absurd h (by simp)
theorem Rd.keep (h : Rd D w sz cs A xs) (hA : Agree D w w') : Rd D w' sz cs A xs := fun h0 => by
  obtain ⟨b, off, rfl, hd, hc⟩ := h h0
  exact ⟨b, off, rfl, hd, fun k hk j u hu => (hA.cell hd).trans (hc k hk j u hu)⟩
theorem Rd.mono (h : Rd D w sz cs A xs) (hd : ∀ b, D b → D' b) : Rd D' w sz cs A xs := fun h0 => by
  obtain ⟨b, off, rfl, h1, hc⟩ := h h0
  exact ⟨b, off, rfl, hd b h1, hc⟩
theorem Rd.below {B : Nat} (h : Rd D w sz cs A xs) (hb : Below B w w') (hd : ∀ b, D b → b < B) : Rd D w' sz cs A xs := h.keep (Agree.below hb hd)
theorem Rd.mod {C : Nat → Prop} (h : Rd D w sz cs A xs) (hm : Mod C w w') (hd : ∀ b, D b → b < w.heap.size ∧ ¬ C b) : Rd D w' sz cs A xs := h.keep (hm.agree hd)
/-- The cells lie where there are blocks. -/
theorem Rd.lt (h : Rd D w sz cs A xs) (hcs : ∀ x, (cs x).length = sz) (hsz : 0 < sz) : Rd (fun b => D b ∧ b < w.heap.size) w sz cs A xs := fun h0 => by
  obtain ⟨b, off, rfl, h1, hc⟩ := h h0
  refine ⟨b, off, rfl, ⟨h1, ?_⟩, hc⟩
  have h2 : (cs xs[0])[0]? = some ((cs xs[0])[0]'(by rw [hcs]; exact hsz)) := List.getElem?_eq_getElem (by rw [hcs]; exact hsz)
  exact World.block_lt_of_cell? w _ (hc 0 h0 0 _ h2)
theorem Rd.flat (h : Rd D w sz cs A xs) (hcs : ∀ x, (cs x).length = sz) (hsz : 0 < sz) {ad : Addr} (hA : A = some ad) : ∀ j u, (xs.flatMap cs)[j]? = some u → w.cell? (ad.add j) = some u := by
  intro j u hu
  have hl := (List.getElem?_eq_some_iff.1 hu).1
  rw [flat_length hcs] at hl
  have h0 : 0 < xs.length := Nat.pos_of_mul_pos_right (Nat.lt_of_le_of_lt (Nat.zero_le j) hl)
  obtain ⟨b, off, he, _, hc⟩ := h h0
  rw [hA] at he
  cases he
  have hk : j / sz < xs.length := (Nat.div_lt_iff_lt_mul hsz).2 hl
  have hj : j = j / sz * sz + j % sz := by rw [Nat.mul_comm]; exact (Nat.div_add_mod j sz).symm
  have := flat_get hcs xs (j / sz) hk (j % sz) (Nat.mod_lt _ hsz)
  rw [← hj, hu] at this
  rw [addr_add]
  have h2 := hc _ hk _ _ this.symm
  rwa [Nat.add_assoc, ← hj] at h2

theorem Rd.blk {g t : Nat} {fr : Nat × Nat} {c : Array Value} (hcs : ∀ x, (cs x).length = sz) (h : w.heap[g]? = some (.cells c t fr)) (hc : c.toList = xs.flatMap cs) : Rd (fun b => b = g) w sz cs (some ⟨g, 0, none⟩) xs := fun _ => by
  refine ⟨g, 0, rfl, rfl, fun k hk j u hu => ?_⟩
  have hj : j < sz := by rw [← hcs xs[k]]; exact (List.getElem?_eq_some_iff.1 hu).1
  have h2 := flat_get hcs xs k hk j hj
  rw [hu, ← hc] at h2
  rw [hp_cell h]
  simpa using h2
theorem Rd.one {g t : Nat} {fr : Nat × Nat} {c : Array Value} {x : α} (h : w.heap[g]? = some (.cells c t fr)) (hc : c.toList = cs x) : Rd (fun b => b = g) w sz cs (some ⟨g, 0, none⟩) [x] := fun _ => by
  refine ⟨g, 0, rfl, rfl, fun k hk j u hu => ?_⟩
  have hk0 : k = 0 := by simpa using hk
  subst hk0
  have hj : cs x = c.toList := hc.symm
  simp only [List.getElem_cons_zero, hj] at hu
  simpa [hp_cell h] using hu
theorem OwnS.nil (base E sz : Nat) (cs : α → List Value) (w : World) : OwnS base E sz cs w (.slice none 0 0) [] := World.ownsRow_nil w base E sz
/-- An owned slice can be read; its row lies from base on. -/
theorem OwnS.rd (h : OwnS base E sz cs w v xs) (hcs : ∀ x, (cs x).length = sz) :
    ∃ A c, v = .slice A xs.length c ∧ Rd (fun b => v.ownBlock = some b) w sz cs A xs ∧ (∀ b, v.ownBlock = some b → base ≤ b ∧ b < w.heap.size) ∧ xs.length ≤ maxLen := by
  have hlt := World.ownsRow.lt h
  rcases h.2 with ⟨rfl, h0⟩ | ⟨g, cap, cur, rfl, hg, hh, hcap, hmax, hsz, htake⟩
  · have : xs = [] := List.eq_nil_of_length_eq_zero h0
    subst this
    exact ⟨none, 0, rfl, Rd.nil _ _ _ _ _, hlt, by simp [maxLen]⟩
  · refine ⟨_, _, rfl, fun h0 => ⟨g, 0, rfl, rfl, fun k hk j u hu => ?_⟩, hlt, Nat.le_trans hcap hmax⟩
    have hj : j < sz := by rw [← hcs xs[k]]; exact (List.getElem?_eq_some_iff.1 hu).1
    have := flat_get hcs xs k hk j hj
    rw [hu] at this
    have h2 := h.cells (g := g) rfl _ _ this
    rw [addr_add] at h2
    rw [← h2]; congr 2; omega
theorem OwnS.fresh (h : OwnS base E sz cs w v xs) : ∀ b, v.ownBlock = some b → base ≤ b ∧ b < w.heap.size := World.ownsRow.lt h
theorem OwnS.keep (h : OwnS base E sz cs w v xs) (hA : Agree (fun b => v.ownBlock = some b) w w') : OwnS base E sz cs w' v xs := by
  refine ⟨h.1, ?_⟩
  rcases h.2 with h0 | ⟨g, cap, cur, rfl, hg, hh, r⟩
  · exact .inl h0
  · exact .inr ⟨g, cap, cur, rfl, hg, (hA.block g rfl).trans hh, r⟩
theorem OwnS.below {B : Nat} (h : OwnS base E sz cs w v xs) (hb : Below B w w') (hB : ∀ b, v.ownBlock = some b → b < B) : OwnS base E sz cs w' v xs := h.keep (Agree.below hb hB)
theorem OwnS.mod {C : Nat → Prop} (h : OwnS base E sz cs w v xs) (hm : Mod C w w') (hn : ∀ b, v.ownBlock = some b → ¬ C b) : OwnS base E sz cs w' v xs :=
  h.keep (hm.agree fun b hb => ⟨(h.fresh b hb).2, hn b hb⟩)
theorem OwnS.less {base' : Nat} (h : OwnS base E sz cs w v xs) (hb : base' ≤ base) : OwnS base' E sz cs w v xs := by
  refine ⟨h.1, ?_⟩
  rcases h.2 with h0 | ⟨g, cap, cur, rfl, hg, r⟩
  · exact .inl h0
  · exact .inr ⟨g, cap, cur, rfl, Nat.le_trans hb hg, r⟩
theorem OwnS.rebase {base' : Nat} (h : OwnS base E sz cs w v xs) (hb : ∀ b, v.ownBlock = some b → base' ≤ b) : OwnS base' E sz cs w v xs := by
  refine ⟨h.1, ?_⟩
  rcases h.2 with h0 | ⟨g, cap, cur, rfl, hg, r⟩
  · exact .inl h0
  · exact .inr ⟨g, cap, cur, rfl, hb g rfl, r⟩

/-- 'append(v, x...)': v's own row, x a slice that can be read (nil, too). -/
theorem run_app {P : Program} {T ty bytes : Nat} (ht : SliceT P T E sz bytes) (hcs : ∀ x, (cs x).length = sz) (h1 : ∀ x, ∀ u ∈ cs x, u.oneCell' = true)
    (hown : OwnS base E sz cs w v xs) (c : Nat) (hr : Rd D w sz cs A ys) (hb1 : xs.length + ys.length ≤ maxLen) (hb2 : (xs.length + ys.length) * bytes ≤ 140737488355328) (hbase : base ≤ w.heap.size) :
    ∃ v' w', (Builtin.append_ #[T, T] ty #[v, .slice A ys.length c]).run P w = .ok v' w' ∧ OwnS base E sz cs w' v' (xs ++ ys) ∧ Mod (fun b => v.ownBlock = some b) w w' ∧
      (v'.ownBlock = v.ownBlock ∨ v'.ownBlock = some w.heap.size) := by
  obtain ⟨hu, ⟨i, z, hi, hz, hs1, hs2, hzs⟩, hp⟩ := ht
  rcases A with _ | ad
  · have hy : ys = [] := by
      cases ys with
      | nil => rfl
      | cons y r => obtain ⟨b, off, h, _⟩ := hr (by simp); cases h
    subst hy
    refine ⟨v, w, ?_, by simpa using hown, Mod.refl _ _, .inl rfl⟩
    rcases hown.2 with ⟨rfl, _⟩ | ⟨g, cap, cur, rfl, _, _, hnc, _⟩
    · simp [Builtin.append_, run_underlying hu, sizeOf, typeInfo, hi, Builtin.lenOf, Builtin.firstCells]
    · simp [Builtin.append_, run_underlying hu, sizeOf, typeInfo, hi, Builtin.lenOf, Builtin.firstCells, hnc, storeCells]
  · obtain ⟨v', w', hrun, h2, h3, _, h5⟩ := run_append_own_at (P := P) w base T ty E i z sz bytes hu hi hz hs1 hs2 hzs hp v xs.length (xs.flatMap cs) hown ad ys.length c (ys.flatMap cs)
      (flat_length hcs ys) (hr.flat hcs hp rfl) (fun u hu => by obtain ⟨x, _, hx⟩ := List.mem_flatMap.1 hu; exact h1 x u hx) hb1 hb2 hbase
    refine ⟨v', w', hrun, ?_, ⟨h3.os, h3.tape, h3.output, h3.size, fun k hk hne => h3.block k hk (fun e => hne e.symm)⟩, h5⟩
    unfold OwnS
    rw [List.length_append, List.flatMap_append]
    exact h2

section
variable {P : Program} {T bytes : Nat} {ops : Array Oper} {rest : List Oper} {o : Oper} {a : Act} {Q : Exit → Act → World → Prop}
theorem wp_app {K : Act → World → Prop} (s x : Operand) (ho : o.op = .call { callee := .builtin .append, args := #[s, x], argTypes := #[T, T] }) (ht : SliceT P T E sz bytes) (hcs : ∀ x, (cs x).length = sz) (h1 : ∀ x, ∀ u ∈ cs x, u.oneCell' = true)
    (hs : a.eval s = v) (hown : OwnS base E sz cs w v xs) {m : Nat} (c : Nat) (hx : a.eval x = .slice A m c) (hm : m = ys.length) (hr : Rd D w sz cs A ys) (hb1 : xs.length + ys.length ≤ maxLen) (hb2 : (xs.length + ys.length) * bytes ≤ 140737488355328) (hbase : base ≤ w.heap.size)
    (h : ∀ v' w', OwnS base E sz cs w' v' (xs ++ ys) → Mod (fun b => v.ownBlock = some b) w w' → (v'.ownBlock = v.ownBlock ∨ v'.ownBlock = some w.heap.size) → K (a.put o.dst v') w') : o.wp P a w K Q := by
  subst hm
  obtain ⟨v', w', hrun, h2, h3, h4⟩ := run_app (P := P) (ty := o.type) ht hcs h1 hown c hr hb1 hb2 hbase
  unfold Oper.wp execOp
  simp only [ho, resolve, invoke, builtin, Sem.run_bind, Sem.run_pure, Result.andThen_ok, List.map_toArray, List.map_cons, List.map_nil, hs, hx, hrun]
  exact h v' w' h2 h3 h4
theorem wpList_app (hgd : o.guard = none) (s x : Operand) (ho : o.op = .call { callee := .builtin .append, args := #[s, x], argTypes := #[T, T] }) (ht : SliceT P T E sz bytes) (hcs : ∀ x, (cs x).length = sz) (h1 : ∀ x, ∀ u ∈ cs x, u.oneCell' = true)
    (hs : a.eval s = v) (hown : OwnS base E sz cs w v xs) {m : Nat} (c : Nat) (hx : a.eval x = .slice A m c) (hm : m = ys.length) (hr : Rd D w sz cs A ys) (hb1 : xs.length + ys.length ≤ maxLen) (hb2 : (xs.length + ys.length) * bytes ≤ 140737488355328) (hbase : base ≤ w.heap.size)
    (h : ∀ v' w', OwnS base E sz cs w' v' (xs ++ ys) → Mod (fun b => v.ownBlock = some b) w w' → (v'.ownBlock = v.ownBlock ∨ v'.ownBlock = some w.heap.size) → wpList P ops Q rest (a.put o.dst v') w') : wpList P ops Q (o :: rest) a w :=
  wpList_plain hgd fun _ hK => wp_app s x ho ht hcs h1 hs hown c hx hm hr hb1 hb2 hbase fun v' w' h2 h3 h4 => hK _ _ (h v' w' h2 h3 h4)
theorem step_app {K : Act → World → Prop} {F : Prop} (hgd : o.guard = none) (s x : Operand) (ho : o.op = .call { callee := .builtin .append, args := #[s, x], argTypes := #[T, T] }) (ht : SliceT P T E sz bytes) (hcs : ∀ x, (cs x).length = sz) (h1 : ∀ x, ∀ u ∈ cs x, u.oneCell' = true)
    (hs : a.eval s = v) (hown : OwnS base E sz cs w v xs) {m : Nat} (c : Nat) (hx : a.eval x = .slice A m c) (hm : m = ys.length) (hr : Rd D w sz cs A ys) (hb1 : xs.length + ys.length ≤ maxLen) (hb2 : (xs.length + ys.length) * bytes ≤ 140737488355328) (hbase : base ≤ w.heap.size)
    (h : ∀ v' w', OwnS base E sz cs w' v' (xs ++ ys) → Mod (fun b => v.ownBlock = some b) w w' → (v'.ownBlock = v.ownBlock ∨ v'.ownBlock = some w.heap.size) → K (a.put o.dst v') w') :
    if Region.wanted o (yielded ops a.tmps) = true then Oper.wp P o a w K Q else F := by
  have hw : Region.wanted o (yielded ops a.tmps) = true := by simp [Region.wanted, hgd]
  rw [if_pos hw]
  exact wp_app s x ho ht hcs h1 hs hown c hx hm hr hb1 hb2 hbase h
theorem wpListIn_app {F : Fence} {n : Nat} (hgd : o.guard = none) (s x : Operand) (ho : o.op = .call { callee := .builtin .append, args := #[s, x], argTypes := #[T, T] }) (ht : SliceT P T E sz bytes) (hcs : ∀ x, (cs x).length = sz) (h1 : ∀ x, ∀ u ∈ cs x, u.oneCell' = true)
    (hs : a.eval s = v) (hown : OwnS base E sz cs w v xs) {m : Nat} (c : Nat) (hx : a.eval x = .slice A m c) (hm : m = ys.length) (hr : Rd D w sz cs A ys) (hb1 : xs.length + ys.length ≤ maxLen) (hb2 : (xs.length + ys.length) * bytes ≤ 140737488355328) (hbase : base ≤ w.heap.size)
    (h : ∀ v' w', OwnS base E sz cs w' v' (xs ++ ys) → Mod (fun b => v.ownBlock = some b) w w' → (v'.ownBlock = v.ownBlock ∨ v'.ownBlock = some w.heap.size) → wpListIn F n P ops Q rest (a.put o.dst v') w') : wpListIn F n P ops Q (o :: rest) a w := by
  refine wpListIn_plain hgd fun K hK => ?_
  subst hm
  obtain ⟨v', w', hrun, h2, h3, h4⟩ := run_app (P := P) (ty := o.type) ht hcs h1 hown c hr hb1 hb2 hbase
  unfold Oper.wpIn
  refine ⟨?_, ?_⟩
  · simp [Oper.about, ho, resolve, Target.leads, Sem.run_pure]
  · rw [Oper.semAt_plain F _ _ (by rw [ho]; intro c hc'; cases hc')]
    simp [execOp, ho, resolve, invoke, builtin, hs, hx, hrun, Result.andThen]
    exact hK _ _ (h v' w' h2 h3 h4)
end
end

/-! ### '==' and '!=' of arrays of integers -/
theorem all_range_eqI : ∀ (xs ys : List Int), xs.length = ys.length → ((List.range xs.length).all fun i => xs.getD i 0 == ys.getD i 0) = (xs == ys)
  | [], [], _ => rfl
  | x :: xs, y :: ys, h => by
    have ih := all_range_eqI xs ys (by simpa using h)
    rw [List.length_cons, List.range_succ_eq_map, List.all_cons, List.all_map]
    simp only [List.getD_cons_zero, Function.comp_def, List.getD_cons_succ, ih]
    simp [List.cons_beq_cons]
  | [], _ :: _, h => by simp at h
  | _ :: _, [], h => by simp at h
section
variable {P : Program} (w : World)
theorem run_equalIn_ints (d : Nat) (t e : TypeId) (n : Nat) (k : IntKind) (ht : P.underlying t = some (.array n e)) (he : P.underlying e = some (.int k)) (hsz : ∀ w, (sizeOf e).run P w = .ok 1 w)
    (xs ys : List Int) (hx : xs.length = n) (hy : ys.length = n) :
    (Op.equalIn (d + 2) t (.agg (xs.map (Value.int k)).toArray) (.agg (ys.map (Value.int k)).toArray)).run P w = .ok (xs == ys) w := by
  rw [← all_range_eqI xs ys (hx.trans hy.symm), hx, List.range_eq_range', Op.equalIn]
  simp only [Sem.run_bind, run_underlying ht, Result.andThen_ok, hsz, Std.Legacy.Range.forIn_eq_forIn_range', Std.Legacy.Range.size, Nat.sub_zero, Nat.add_sub_cancel, Nat.div_one]
  have hl : ∀ i ∈ List.range' 0 n 1, i < n := fun i hi => by simpa using (List.mem_range'_1.1 hi).2
  generalize List.range' 0 n 1 = l at hl ⊢
  induction l with
  | nil => simp
  | cons i l ih =>
    have hi : i < n := hl i (by simp)
    have px : (part e (xs.map (Value.int k)).toArray (i * 1)).run P w = .ok (.int k (xs.getD i 0)) w := by
      simp [part, isAgg, run_underlying he, List.getD, List.getElem?_eq_getElem (show i < xs.length by omega)]
    have py : (part e (ys.map (Value.int k)).toArray (i * 1)).run P w = .ok (.int k (ys.getD i 0)) w := by
      simp [part, isAgg, run_underlying he, List.getD, List.getElem?_eq_getElem (show i < ys.length by omega)]
    have pe : (Op.equalIn (d + 1) e (.int k (xs.getD i 0)) (.int k (ys.getD i 0))).run P w = .ok (xs.getD i 0 == ys.getD i 0) w :=
      run_equalIn_int w d e k k _ _ he
    simp only [List.forIn_cons, Sem.run_bind, px, py, pe, Result.andThen_ok, List.all_cons]
    cases hb : (xs.getD i 0 == ys.getD i 0)
    · simp
    · simp only [Bool.not_true, Bool.false_eq_true, if_false, Sem.run_pure, Result.andThen_ok, Bool.true_and]
      exact ih fun j hj => hl j (by simp [hj])
theorem run_neq_ints (t e : TypeId) (n : Nat) (k : IntKind) (ht : P.underlying t = some (.array n e)) (he : P.underlying e = some (.int k)) (hsz : ∀ w, (sizeOf e).run P w = .ok 1 w)
    (xs ys : List Int) (hx : xs.length = n) (hy : ys.length = n) :
    (binOp .neq t (.agg (xs.map (Value.int k)).toArray) (.agg (ys.map (Value.int k)).toArray)).run P w = .ok (.bool (!(xs == ys))) w := by
  rw [run_neq_struct, run_equalIn_ints w 9998 t e n k ht he hsz xs ys hx hy]
  rfl
theorem run_eql_ints (t e : TypeId) (n : Nat) (k : IntKind) (ht : P.underlying t = some (.array n e)) (he : P.underlying e = some (.int k)) (hsz : ∀ w, (sizeOf e).run P w = .ok 1 w)
    (xs ys : List Int) (hx : xs.length = n) (hy : ys.length = n) :
    (binOp .eql t (.agg (xs.map (Value.int k)).toArray) (.agg (ys.map (Value.int k)).toArray)).run P w = .ok (.bool (xs == ys)) w := by
  rw [run_eql_struct, run_equalIn_ints w 9998 t e n k ht he hsz xs ys hx hy]
  rfl
end
end Go.Proofs.YtmalclclopnlnaaGreat
