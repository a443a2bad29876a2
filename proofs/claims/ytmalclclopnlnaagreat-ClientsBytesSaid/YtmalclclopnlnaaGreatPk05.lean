/-
  Texts of this claim, one behind the other: Iter, Round.
-/
import Derived.Test.YtmalclclopnlnaaGreatPk00
/-
  Iterators in the large: what is yielded may lie in new memory, and the producer may keep a state of its own.
-/
namespace Go.Proofs.YtmalclclopnlnaaGreat
open Go.RowKit

/-- What an iterator hands out: how many, how many values each, what is said of the k-th (over blocks R); it reads blocks of D, keeps its own state in blocks of E: of which S (k + 1) is said at the k-th. -/
structure It where
  n : Nat
  ar : Nat
  V : Nat → Array Value → (Nat → Prop) → World → Prop
  D : Nat → Prop
  E : Nat → Prop
  S : Nat → World → Prop
structure It.Ok (i : It) : Prop where
  size : ∀ k enc R W, i.V k enc R W → enc.size = i.ar
  stabV : ∀ k enc R W W', i.V k enc R W → Agree R W W' → i.V k enc R W'
  stabS : ∀ k W W', i.S k W → Agree i.E W W' → i.S k W'
  disj : ∀ b, i.E b → ¬ i.D b

/-- What is left behind a whole range. -/
def RndE (E : Nat → Prop) (J : Nat → (Nat → Prop) → World → Prop) (k : Nat) (C : Nat → Prop) (W W' : World) : Prop :=
  ∃ C', J k C' W' ∧ Mod (fun b => C b ∨ E b) W W' ∧ ∀ b, C' b → b < W'.heap.size ∧ (C b ∨ W.heap.size ≤ b)

def IterG (P : Program) (g : Nat) (lb : Array Value) (i : It) (w0 : World) : Prop :=
  ∀ (l : Nat) (J Jx : Nat → (Nat → Prop) → World → Prop) (C0 : Nat → Prop) (W : World), Agree i.D w0 W → (∀ b, i.E b → b < W.heap.size) → (∀ b, C0 b → b < W.heap.size ∧ ¬ i.D b ∧ ¬ i.E b) → Stab J → Stab Jx →
    (∀ (k : Nat) (hk : k < i.n) (enc : Array Value) (R C : Nat → Prop) (W1 : World), J k C W1 → i.S (k + 1) W1 → i.V k enc R W1 → (∀ b, R b → b < W1.heap.size ∧ ¬ C b) → Mod (fun b => C0 b ∨ i.E b) W W1 → (∀ b, C b → b < W1.heap.size ∧ (C0 b ∨ W.heap.size ≤ b)) →
      Yields P l enc W1 fun e W2 => (e = .returned (.bool true) ∧ Rnd J (k + 1) C W1 W2) ∨ (e = .returned (.bool false) ∧ Rnd Jx (k + 1) C W1 W2)) →
    J 0 C0 W → i.S 0 W →
    Calls P g (#[.func (.yield l) #[] #[]] ++ lb) W fun e W' => (∃ v, e = .returned v) ∧ ((i.S i.n W' ∧ RndE i.E J i.n C0 W W') ∨ ∃ k, 0 < k ∧ k ≤ i.n ∧ i.S k W' ∧ RndE i.E Jx k C0 W W')

theorem IterG.later {P : Program} {g : Nat} {lb : Array Value} {i : It} {w0 w1 : World} (h : IterG P g lb i w0) (ha : Agree i.D w0 w1) : IterG P g lb i w1 :=
  fun l J Jx C0 W hA hE hC hJ hJx hY h0 hs => h l J Jx C0 W (ha.trans hA) hE hC hJ hJx hY h0 hs

section
variable {P : Program}

/-- What a loop of the wide fence (itself within a round of l₀, or not) owes: the record's own block for deferred calls. -/
theorem wpIn_rangeG {g : Operand} {ps : Array Tmp} {assign body : Code} {Q : Exit → Act → World → Prop} {a : Act} {w : World} {n : Nat} {ro : Option Nat}
    {gf : Nat} {lb : Array Value} (hg : a.eval g = .func (.func gf) #[] lb) (eg : ∀ args w, (callFunc gf args).run P w = .ok (.enter gf args) w)
    {i : It} (hok : i.Ok) (it : IterG P gf lb i w) (hD : ∀ b, i.D b ∨ i.E b → b < w.heap.size) (hps : i.ar = ps.size)
    (I : Nat → (Nat → Prop) → World → Prop) (Ix : Code → Nat → (Nat → Prop) → World → Prop) (Ax : Array Value → Array Value → Act → Nat → (Nat → Prop) → World → Prop)
    (hI : Stab I) (hIx : ∀ c, Stab (Ix c)) (hAx : ∀ T enc a', Stab (Ax T enc a'))
    (C0 : Nat → Prop) (hC0 : ∀ b, C0 b → b < w.heap.size ∧ ¬ i.D b ∧ ¬ i.E b) (h0 : I 0 C0 w) (hs0 : i.S 0 w)
    (henter : ∀ fn, ∃ l mark W1, l < W1.heap.size ∧ w.heap.size ≤ l ∧
      (Instr.enterLoop fn a.tmps ps assign body ro).run P w = .ok (l, mark) W1 ∧
      (∃ dd, W1.heap[l]? = some (.loop { state := .ready, pending := none, fn, tmps := a.tmps, params := ps, assign, body, defers := dd })) ∧ Mod (fun _ => False) w W1 ∧
      (∀ (W' : World) (C' : Nat → Prop), I i.n C' W' → i.S i.n W' → Mod (fun b => C0 b ∨ i.E b) w W' → (∀ b, C' b → b < W'.heap.size ∧ (C0 b ∨ w.heap.size ≤ b)) → ¬ C' l →
        (∀ b, b < W1.heap.size → ¬ C0 b → w.heap.size ≤ b → b ≠ l → W'.heap[b]? = W1.heap[b]? ∧ ¬ C' b) → Q .normal { a with defers := mark ++ a.defers } W') ∧
      (∀ (W' : World) (C' : Nat → Prop) (c : Code) (k : Nat), 0 < k → k ≤ i.n → Ix c k C' W' → i.S k W' → Mod (fun b => C0 b ∨ i.E b) w W' → (∀ b, C' b → b < W'.heap.size ∧ (C0 b ∨ w.heap.size ≤ b)) → ¬ C' l →
        (∀ b, b < W1.heap.size → ¬ C0 b → w.heap.size ≤ b → b ≠ l → W'.heap[b]? = W1.heap[b]? ∧ ¬ C' b) → c.wpIn { Fence.wide with round := ro } n P Q { a with defers := mark ++ a.defers } W'))
    (hassign : ∀ (l k : Nat) (hk : k < i.n) (enc : Array Value) (R C : Nat → Prop) (W : World), I k C W → i.S (k + 1) W → i.V k enc R W → (∀ b, R b → b < W.heap.size ∧ ¬ C b) → Mod (fun b => C0 b ∨ i.E b) w W → (∀ b, C b → b < W.heap.size ∧ (C0 b ∨ w.heap.size ≤ b)) →
      assign.wpIn (Fence.wide.inRound l) 0 P (Exit.then (fun a' W' => Rnd (Ax a.tmps enc a') k C W W') (fun _ _ _ => False))
        { tmps := (ps.zip enc).foldl (fun t (p, v) => t.setIfInBounds p v) a.tmps, defers := [] } W)
    (hbody : ∀ (l k : Nat) (_ : k < i.n) (enc : Array Value) (R C : Nat → Prop) (a' : Act) (W : World), Ax a.tmps enc a' k C W → i.S (k + 1) W → i.V k enc R W → (∀ b, R b → b < W.heap.size ∧ ¬ C b) → Mod (fun b => C0 b ∨ i.E b) w W → (∀ b, C b → b < W.heap.size ∧ (C0 b ∨ w.heap.size ≤ b)) →
      (∃ r, W.heap[l]? = some (.loop r)) → ¬ C l → w.heap.size ≤ l →
      body.wpIn (Fence.wide.inRound l) 0 P (rndPost I Ix (k + 1) C W) a' W) :
    (Code.rangeFunc g ps assign body).wpIn { Fence.wide with round := ro } n P Q a w := by
  have hE0 : ∀ b, i.E b → b < w.heap.size := fun b hb => hD b (.inr hb)
  refine wpIn_rangeFunc ?_
  intro fn _
  obtain ⟨l, mark, W1, hl1, hlw, hrun, ⟨dd, hrec⟩, hm1, hdone, hstop⟩ := henter fn
  obtain ⟨rec, hreceq⟩ : ∃ rec : LoopState → Option Code → Loop, rec = fun st pe => { state := st, pending := pe, fn, tmps := a.tmps, params := ps, assign, body, defers := dd } := ⟨_, rfl⟩
  have hrec' : W1.heap[l]? = some (.loop (rec .ready none)) := by rw [hreceq]; exact hrec
  have hA1 : ∀ {E : Nat → Prop}, (∀ b, E b → b < w.heap.size) → Agree E w W1 := fun hE => hm1.agree (fun b hb => ⟨hE b hb, id⟩)
  have hI1 : I 0 C0 W1 := hI _ _ _ _ h0 (hA1 (fun b hb => (hC0 b hb).1))
  have hlE : ¬ i.E l := fun h => by have := hE0 l h; omega
  have hSput : ∀ {k : Nat} {W : World} {o : Obj}, i.S k W → i.S k (W.putObj l o) := fun {k W o} h => hok.stabS _ _ _ h ⟨rfl, rfl, rfl, by simp, fun b hb => World.putObj_heap_other (fun e => by subst e; exact hlE hb)⟩
  refine ⟨l, mark, W1, { target := .fn (.func gf) lb, args := #[.func (.yield l) #[] #[]] }, W1, gf, #[.func (.yield l) #[] #[]] ++ lb, W1, hrun, ?_, fun _ _ => trivial, ?_, fun _ => by simp_all [Fence.wide], ?_⟩
  · simp only [resolve, hg]
    simp [go_sem]
  · simp [invoke, go_sem, eg]
  -- the consumer's word, with the record
  let J : Nat → (Nat → Prop) → World → Prop := fun k C W => ∃ C', I k C' W ∧ C = (fun b => C' b ∨ b = l) ∧ ¬ C' l ∧ W.heap[l]? = some (.loop (rec .ready none)) ∧ (∀ b, b < W1.heap.size → ¬ C0 b → w.heap.size ≤ b → ¬ C' b)
  let Jx : Nat → (Nat → Prop) → World → Prop := fun k C W => ∃ C' c, Ix c k C' W ∧ C = (fun b => C' b ∨ b = l) ∧ ¬ C' l ∧ W.heap[l]? = some (.loop (rec .done (some c))) ∧ (∀ b, b < W1.heap.size → ¬ C0 b → w.heap.size ≤ b → ¬ C' b)
  have hJ : Stab J := by
    rintro k C W W' ⟨C', hi, rfl, hn, hl, hx⟩ hA
    exact ⟨C', hI _ _ _ _ hi (hA.mono fun b hb => .inl hb), rfl, hn, (hA.block l (.inr rfl)).trans hl, hx⟩
  have hJx : Stab Jx := by
    rintro k C W W' ⟨C', c, hi, rfl, hn, hl, hx⟩ hA
    exact ⟨C', c, hIx c _ _ _ _ hi (hA.mono fun b hb => .inl hb), rfl, hn, (hA.block l (.inr rfl)).trans hl, hx⟩
  have hcall := it l J Jx (fun b => C0 b ∨ b = l) W1 (hA1 fun b hb => hD b (.inl hb)) (fun b hb => Nat.lt_of_lt_of_le (hE0 b hb) hm1.size)
    (fun b hb => by
      rcases hb with hb | hb
      · exact ⟨by have := (hC0 b hb).1; have := hm1.size; omega, (hC0 b hb).2⟩
      · subst hb; exact ⟨hl1, fun hd => by have := hD _ (.inl hd); omega, hlE⟩) hJ hJx ?_ ⟨C0, hI1, rfl, fun hc => by have := (hC0 l hc).1; omega, hrec', fun b _ hn _ => hn⟩ (hok.stabS _ _ _ hs0 (hA1 hE0))
  · -- behind the iterator
    refine (callsIn_wide.2 hcall).mono ?_
    have hfin : ∀ {C1 : Nat → Prop} {W2 : World}, Mod (fun b => (C0 b ∨ b = l) ∨ i.E b) W1 W2 → (∀ b, C1 b ∨ b = l → b < W2.heap.size ∧ ((C0 b ∨ b = l) ∨ W1.heap.size ≤ b)) → ¬ C1 l →
        (∀ b, b < W1.heap.size → ¬ C0 b → w.heap.size ≤ b → ¬ C1 b) → ∀ o,
        Mod (fun b => C0 b ∨ i.E b) w (W2.putObj l o) ∧ (∀ b, C1 b → b < (W2.putObj l o).heap.size ∧ (C0 b ∨ w.heap.size ≤ b)) ∧ Agree C1 W2 (W2.putObj l o) ∧
        (∀ b, b < W1.heap.size → ¬ C0 b → w.heap.size ≤ b → b ≠ l → (W2.putObj l o).heap[b]? = W1.heap[b]? ∧ ¬ C1 b) := by
      intro C1 W2 hm hb hn hx o
      refine ⟨?_, fun b hc => ?_, ?_, fun b hb1 hb2 hb3 hb4 => ⟨?_, hx b hb1 hb2 hb3⟩⟩
      · refine Mod.putObj ?_ (.inr hlw) o
        refine (hm1.mono (fun _ _ h => h.elim) : Mod (fun b => C0 b ∨ i.E b) w W1).trans hm (fun b hb => ?_)
        rcases hb with (hb | hb) | hb
        · exact .inl (.inl hb)
        · subst hb; exact .inr hlw
        · exact .inl (.inr hb)
      · have := hb b (.inl hc)
        refine ⟨by simpa using this.1, ?_⟩
        rcases this.2 with (h | h) | h
        · exact .inl h
        · subst h; exact .inr hlw
        · exact .inr (by have := hm1.size; omega)
      · exact ⟨rfl, rfl, rfl, by simp, fun b hcb => World.putObj_heap_other (fun e => by subst e; exact hn hcb)⟩
      · exact (World.putObj_heap_other hb4).trans (hm.block b hb1 (fun h => h.elim (fun h => h.elim hb2 hb4) (fun h => by have := hE0 b h; omega)))
    rintro e W2 ⟨⟨v, rfl⟩, h⟩
    rcases h with ⟨hs, C', ⟨C1, hi, rfl, hn, hl, hx⟩, hm, hb⟩ | ⟨k, hk0, hk1, hs, C', ⟨C1, c, hi, rfl, hn, hl, hx⟩, hm, hb⟩
    · obtain ⟨f1, f2, f3, f4⟩ := hfin hm hb hn hx (.loop { rec .ready none with state := .exhausted })
      exact ⟨none, _, by have := run_endLoop (P := P) hl (by rw [hreceq]; simp); rw [hreceq] at this ⊢; exact this, hdone _ C1 (hI _ _ _ _ hi f3) (hSput hs) f1 f2 hn f4⟩
    · obtain ⟨f1, f2, f3, f4⟩ := hfin hm hb hn hx (.loop { rec .done (some c) with state := .exhausted })
      exact ⟨some c, _, by have := run_endLoop (P := P) hl (by rw [hreceq]; simp); rw [hreceq] at this ⊢; exact this, hstop _ C1 c k hk0 hk1 (hIx c _ _ _ _ hi f3) (hSput hs) f1 f2 hn f4⟩
  · -- one round
    rintro k hk enc R C W2 ⟨C1, hi, rfl, hn, hl, hx⟩ hs hV hR hm hb
    have hbC1 : ∀ b, C1 b → b < W2.heap.size ∧ (C0 b ∨ w.heap.size ≤ b) := fun b hc => by
      have := hb b (.inl hc)
      refine ⟨this.1, ?_⟩
      rcases this.2 with (h | h) | h
      · exact .inl h
      · subst h; exact .inr hlw
      · exact .inr (by have := hm1.size; omega)
    have hmw : Mod (fun b => C0 b ∨ i.E b) w W2 := (hm1.mono (fun _ _ h => h.elim) : Mod (fun b => C0 b ∨ i.E b) w W1).trans hm (fun b hb => by
      rcases hb with (hb | hb) | hb
      · exact .inl (.inl hb)
      · subst hb; exact .inr hlw
      · exact .inl (.inr hb))
    have hCE : ∀ b, C1 b → ¬ i.E b := fun b hc he => by
      rcases (hbC1 b hc).2 with h | h
      · exact (hC0 b h).2.2 he
      · have := hE0 b he; omega
    have hy := run_yield (P := P) (args := enc) hl (by rw [hreceq]; exact (hok.size _ _ _ _ hV).trans hps)
    rw [hreceq] at hy
    refine ⟨fn, _, assign, body, hy, fun m => round_any (n := 0) ?_ m⟩
    clear hy
    refine roundIn_of_wpIn trivial (wpIn_mono (hassign l k hk enc R C1 W2 hi hs hV (fun b hb => ⟨(hR b hb).1, fun h => (hR b hb).2 (.inl h)⟩) hmw hbC1) ?_)
    rintro e a' W3 h3
    cases e with
    | normal =>
      obtain ⟨C2, hax, hm3, hb3⟩ := h3
      have hlt2 : l < W2.heap.size := (Array.getElem?_eq_some_iff.1 hl).1
      have hn2 : ¬ C2 l := fun hc => by rcases (hb3 l hc).2 with h | h; exact hn h; omega
      have hl3 : W3.heap[l]? = some (.loop (rec .ready none)) := (hm3.block l hlt2 hn).trans hl
      have hlt3 : l < W3.heap.size := (Array.getElem?_eq_some_iff.1 hl3).1
      refine ⟨_, run_beginRound hl3 (by rw [hreceq]), ?_⟩
      have hl4 : (W3.putObj l (.loop { rec .ready none with state := .busy })).heap[l]? = some (.loop { rec .ready none with state := .busy }) := World.putObj_heap_same hlt3
      have hax4 : Ax a.tmps enc a' k C2 (W3.putObj l (.loop { rec .ready none with state := .busy })) :=
        hAx _ _ a' _ _ _ _ hax ⟨rfl, rfl, rfl, by simp, fun b hcb => World.putObj_heap_other (fun e => by subst e; exact hn2 hcb)⟩
      have hmw4 : Mod (fun b => C0 b ∨ i.E b) w (W3.putObj l (.loop { rec .ready none with state := .busy })) :=
        (hmw.trans hm3 (fun b hb => (hbC1 b hb).2.elim (fun h => .inl (.inl h)) .inr)).putObj (.inr hlw) _
      have hbw4 : ∀ b, C2 b → b < (W3.putObj l (.loop { rec .ready none with state := .busy })).heap.size ∧ (C0 b ∨ w.heap.size ≤ b) := fun b hb => by
        have := hb3 b hb
        refine ⟨by simpa using this.1, ?_⟩
        rcases this.2 with h | h
        · exact (hbC1 b h).2
        · exact .inr (by have := hmw.size; omega)
      have hs3 : i.S (k + 1) W3 := hok.stabS _ _ _ hs (hm3.agree fun b hb => ⟨Nat.lt_of_lt_of_le (hE0 b hb) hmw.size, fun hc => hCE b hc hb⟩)
      have hV3 : i.V k enc R W3 := hok.stabV _ _ _ _ _ hV (hm3.agree fun b hb => ⟨(hR b hb).1, fun hc => (hR b hb).2 (.inl hc)⟩)
      have hV4 : i.V k enc R (W3.putObj l (.loop { rec .ready none with state := .busy })) :=
        hok.stabV _ _ _ _ _ hV3 ⟨rfl, rfl, rfl, by simp, fun b hbR => World.putObj_heap_other (fun e => (hR b hbR).2 (.inr (by first | exact e | exact e.symm)))⟩
      have hR4 : ∀ b, R b → b < (W3.putObj l (.loop { rec .ready none with state := .busy })).heap.size ∧ ¬ C2 b := fun b hb => by
        have h2 := (hR b hb).1
        have := hm3.size
        refine ⟨by simp; omega, fun hc => ?_⟩
        rcases (hb3 b hc).2 with h | h
        · exact (hR b hb).2 (.inl h)
        · omega
      refine wpIn_mono (hbody l k hk enc R C2 a' _ hax4 (hSput hs3) hV4 hR4 hmw4 hbw4 ⟨_, hl4⟩ hn2 hlw) ?_
      have fin : ∀ (Z : Nat → (Nat → Prop) → World → Prop) (_ : Stab Z) (jump : Option Code) (W5 : World), Rnd Z (k + 1) C2 (W3.putObj l (.loop { rec .ready none with state := .busy })) W5 →
          ∃ W6, (Instr.endRound l jump).run P W5 = .ok (.bool jump.isNone) W6 ∧
            ∃ C3, Z (k + 1) C3 W6 ∧ ¬ C3 l ∧ W6.heap[l]? = some (.loop (rec (if jump.isNone then .ready else .done) jump)) ∧ (∀ b, b < W1.heap.size → ¬ C0 b → w.heap.size ≤ b → ¬ C3 b) ∧
              Mod (fun b => C1 b ∨ b = l) W2 W6 ∧ (∀ b, C3 b ∨ b = l → b < W6.heap.size ∧ ((C1 b ∨ b = l) ∨ W2.heap.size ≤ b)) := by
        rintro Z hZ jump W5 ⟨C3, hz, hm5, hb5⟩
        have hl5 : W5.heap[l]? = some (.loop { rec .ready none with state := .busy }) := (hm5.block l (by simpa using hlt3) hn2).trans hl4
        have hlt5 : l < W5.heap.size := (Array.getElem?_eq_some_iff.1 hl5).1
        have hn3 : ¬ C3 l := fun hc => by rcases (hb5 l hc).2 with h | h; exact hn2 h; simp at h; omega
        have hr := run_endRound (P := P) jump hl5
        refine ⟨_, hr, C3, hZ _ _ _ _ hz ⟨rfl, rfl, rfl, by simp, fun b hcb => World.putObj_heap_other (fun e => by subst e; exact hn3 hcb)⟩, hn3, ?_, fun b hb1 hb2 hb3' hc => ?_, ?_, fun b hb => ?_⟩
        · rw [hreceq]; exact World.putObj_heap_same hlt5
        · have hs1 := hm.size
          have hs3 := hm3.size
          rcases (hb5 b hc).2 with h | h
          · rcases (hb3 b h).2 with h' | h'
            · exact hx b hb1 hb2 hb3' h'
            · omega
          · simp at h; omega
        · have h23 : Mod (fun b => C1 b ∨ b = l) W2 W3 := hm3.mono (fun _ _ h => .inl h)
          refine Mod.putObj ((h23.putObj (.inl (.inr rfl)) _).trans hm5 (fun b hb => ?_)) (.inl (.inr rfl)) _
          rcases (hb3 b hb).2 with h | h
          · exact .inl (.inl h)
          · exact .inr h
        · have hs3 := hm3.size
          rcases hb with hb | hb
          · refine ⟨by simpa using (hb5 b hb).1, ?_⟩
            rcases (hb5 b hb).2 with h | h
            · rcases (hb3 b h).2 with h' | h'
              · exact .inl (.inl h')
              · exact .inr h'
            · exact .inr (by simp at h; omega)
          · subst hb; exact ⟨by simpa using hlt5, .inl (.inr rfl)⟩
      rintro e a3 W5 hp
      cases e with
      | normal =>
        obtain ⟨W6, hr, C3, hz, h1, h2, h3, h4, h5⟩ := fin I hI none W5 hp
        exact ⟨_, _, hr, .inl ⟨rfl, _, ⟨C3, hz, rfl, h1, h2, h3⟩, h4, h5⟩⟩
      | ret =>
        obtain ⟨W6, hr, C3, hz, h1, h2, h3, h4, h5⟩ := fin _ (hIx _) (some .ret) W5 hp
        exact ⟨_, _, hr, .inr ⟨rfl, _, ⟨C3, _, hz, rfl, h1, h2, h3⟩, h4, h5⟩⟩
      | exit id =>
        obtain ⟨W6, hr, C3, hz, h1, h2, h3, h4, h5⟩ := fin _ (hIx _) (some (.exit id)) W5 hp
        exact ⟨_, _, hr, .inr ⟨rfl, _, ⟨C3, _, hz, rfl, h1, h2, h3⟩, h4, h5⟩⟩
      | goto t =>
        obtain ⟨W6, hr, C3, hz, h1, h2, h3, h4, h5⟩ := fin _ (hIx _) (some (.goto t)) W5 hp
        exact ⟨_, _, hr, .inr ⟨rfl, _, ⟨C3, _, hz, rfl, h1, h2, h3⟩, h4, h5⟩⟩
      | panic ch => exact hp.elim
      | outgrown => exact hp.elim
    | ret => exact h3.elim
    | exit id => exact h3.elim
    | goto t => exact h3.elim
    | panic ch => exact h3.elim
    | outgrown => exact h3.elim

/-- A range over an iterator in a function's own activation. -/
theorem wp_rangeG {g : Operand} {ps : Array Tmp} {assign body : Code} {Q : Exit → Act → World → Prop} {a : Act} {w : World} {n : Nat}
    {gf : Nat} {lb : Array Value} (hg : a.eval g = .func (.func gf) #[] lb) (eg : ∀ args w, (callFunc gf args).run P w = .ok (.enter gf args) w)
    {i : It} (hok : i.Ok) (it : IterG P gf lb i w) (hD : ∀ b, i.D b ∨ i.E b → b < w.heap.size) (hps : i.ar = ps.size)
    (I : Nat → (Nat → Prop) → World → Prop) (Ix : Code → Nat → (Nat → Prop) → World → Prop) (Ax : Array Value → Array Value → Act → Nat → (Nat → Prop) → World → Prop)
    (hI : Stab I) (hIx : ∀ c, Stab (Ix c)) (hAx : ∀ T enc a', Stab (Ax T enc a'))
    (C0 : Nat → Prop) (hC0 : ∀ b, C0 b → b < w.heap.size ∧ ¬ i.D b ∧ ¬ i.E b) (h0 : I 0 C0 w) (hs0 : i.S 0 w)
    (hassign : ∀ (l k : Nat) (hk : k < i.n) (enc : Array Value) (R C : Nat → Prop) (W : World), I k C W → i.S (k + 1) W → i.V k enc R W → (∀ b, R b → b < W.heap.size ∧ ¬ C b) → Mod (fun b => C0 b ∨ i.E b) w W → (∀ b, C b → b < W.heap.size ∧ (C0 b ∨ w.heap.size ≤ b)) →
      assign.wpIn (Fence.wide.inRound l) 0 P (Exit.then (fun a' W' => Rnd (Ax a.tmps enc a') k C W W') (fun _ _ _ => False))
        { tmps := (ps.zip enc).foldl (fun t (p, v) => t.setIfInBounds p v) a.tmps, defers := [] } W)
    (hbody : ∀ (l k : Nat) (_ : k < i.n) (enc : Array Value) (R C : Nat → Prop) (a' : Act) (W : World), Ax a.tmps enc a' k C W → i.S (k + 1) W → i.V k enc R W → (∀ b, R b → b < W.heap.size ∧ ¬ C b) → Mod (fun b => C0 b ∨ i.E b) w W → (∀ b, C b → b < W.heap.size ∧ (C0 b ∨ w.heap.size ≤ b)) →
      (∃ r, W.heap[l]? = some (.loop r)) → ¬ C l → w.heap.size ≤ l →
      body.wpIn (Fence.wide.inRound l) 0 P (rndPost I Ix (k + 1) C W) a' W)
    (hdone : ∀ (W' : World) (C' : Nat → Prop), I i.n C' W' → i.S i.n W' → Mod (fun b => C0 b ∨ i.E b) w W' → (∀ b, C' b → b < W'.heap.size ∧ (C0 b ∨ w.heap.size ≤ b)) →
      W'.heap[w.heap.size]? = some (.deferred (some [])) → ¬ C' w.heap.size → Q .normal { a with defers := { target := .collected w.heap.size, args := #[] } :: a.defers } W')
    (hstop : ∀ (W' : World) (C' : Nat → Prop) (c : Code) (k : Nat), 0 < k → k ≤ i.n → Ix c k C' W' → i.S k W' → Mod (fun b => C0 b ∨ i.E b) w W' → (∀ b, C' b → b < W'.heap.size ∧ (C0 b ∨ w.heap.size ≤ b)) →
      W'.heap[w.heap.size]? = some (.deferred (some [])) → ¬ C' w.heap.size → c.wpIn Fence.wide n P Q { a with defers := { target := .collected w.heap.size, args := #[] } :: a.defers } W') :
    (Code.rangeFunc g ps assign body).wpIn Fence.wide n P Q a w := by
  refine wpIn_rangeG (ro := none) hg eg hok it hD hps I Ix Ax hI hIx hAx C0 hC0 h0 hs0 (fun fn => ?_) hassign hbody
  have hr := run_enterLoop_outer (P := P) (w := w) fn a.tmps ps assign body
  have hsz : ((w.alloc (.deferred (some []))).alloc (.loop { state := .ready, pending := none, fn, tmps := a.tmps, params := ps, assign, body, defers := w.heap.size })).heap.size = w.heap.size + 2 := by simp
  have hk1 : ((w.alloc (.deferred (some []))).alloc (.loop { state := .ready, pending := none, fn, tmps := a.tmps, params := ps, assign, body, defers := w.heap.size })).heap[w.heap.size]? = some (.deferred (some [])) :=
    (Below.heap_alloc _ _ _ (by simp)).trans (World.alloc_heap_new w _)
  refine ⟨w.heap.size + 1, _, _, by rw [hsz]; omega, by omega, hr, ⟨w.heap.size, ?_⟩, ((Mod.refl _ w).alloc _).alloc _, fun W' C' hi hs hm hb hl hx => ?_, fun W' C' c k hk0 hk1' hi hs hm hb hl hx => ?_⟩
  · have := World.alloc_heap_new (w.alloc (.deferred (some []))) (.loop { state := .ready, pending := none, fn, tmps := a.tmps, params := ps, assign, body, defers := w.heap.size })
    rwa [World.size_alloc] at this
  · obtain ⟨h1, h2⟩ := hx w.heap.size (by rw [hsz]; omega) (fun hc => by have := (hC0 _ hc).1; omega) (Nat.le_refl _) (by omega)
    exact hdone W' C' hi hs hm hb (h1.trans hk1) h2
  · obtain ⟨h1, h2⟩ := hx w.heap.size (by rw [hsz]; omega) (fun hc => by have := (hC0 _ hc).1; omega) (Nat.le_refl _) (by omega)
    exact hstop W' C' c k hk0 hk1' hi hs hm hb (h1.trans hk1) h2

/-- A range over an iterator in a round of the loop l₀. -/
theorem wp_rangeG_in {g : Operand} {ps : Array Tmp} {assign body : Code} {Q : Exit → Act → World → Prop} {a : Act} {w : World} {n l₀ : Nat} {r₀ : Loop} (hl₀ : w.heap[l₀]? = some (.loop r₀))
    {gf : Nat} {lb : Array Value} (hg : a.eval g = .func (.func gf) #[] lb) (eg : ∀ args w, (callFunc gf args).run P w = .ok (.enter gf args) w)
    {i : It} (hok : i.Ok) (it : IterG P gf lb i w) (hD : ∀ b, i.D b ∨ i.E b → b < w.heap.size) (hps : i.ar = ps.size)
    (I : Nat → (Nat → Prop) → World → Prop) (Ix : Code → Nat → (Nat → Prop) → World → Prop) (Ax : Array Value → Array Value → Act → Nat → (Nat → Prop) → World → Prop)
    (hI : Stab I) (hIx : ∀ c, Stab (Ix c)) (hAx : ∀ T enc a', Stab (Ax T enc a'))
    (C0 : Nat → Prop) (hC0 : ∀ b, C0 b → b < w.heap.size ∧ ¬ i.D b ∧ ¬ i.E b) (h0 : I 0 C0 w) (hs0 : i.S 0 w)
    (hassign : ∀ (l k : Nat) (hk : k < i.n) (enc : Array Value) (R C : Nat → Prop) (W : World), I k C W → i.S (k + 1) W → i.V k enc R W → (∀ b, R b → b < W.heap.size ∧ ¬ C b) → Mod (fun b => C0 b ∨ i.E b) w W → (∀ b, C b → b < W.heap.size ∧ (C0 b ∨ w.heap.size ≤ b)) →
      assign.wpIn (Fence.wide.inRound l) 0 P (Exit.then (fun a' W' => Rnd (Ax a.tmps enc a') k C W W') (fun _ _ _ => False))
        { tmps := (ps.zip enc).foldl (fun t (p, v) => t.setIfInBounds p v) a.tmps, defers := [] } W)
    (hbody : ∀ (l k : Nat) (_ : k < i.n) (enc : Array Value) (R C : Nat → Prop) (a' : Act) (W : World), Ax a.tmps enc a' k C W → i.S (k + 1) W → i.V k enc R W → (∀ b, R b → b < W.heap.size ∧ ¬ C b) → Mod (fun b => C0 b ∨ i.E b) w W → (∀ b, C b → b < W.heap.size ∧ (C0 b ∨ w.heap.size ≤ b)) →
      (∃ r, W.heap[l]? = some (.loop r)) → ¬ C l → w.heap.size ≤ l →
      body.wpIn (Fence.wide.inRound l) 0 P (rndPost I Ix (k + 1) C W) a' W)
    (hdone : ∀ (W' : World) (C' : Nat → Prop), I i.n C' W' → i.S i.n W' → Mod (fun b => C0 b ∨ i.E b) w W' → (∀ b, C' b → b < W'.heap.size ∧ (C0 b ∨ w.heap.size ≤ b)) → Q .normal a W')
    (hstop : ∀ (W' : World) (C' : Nat → Prop) (c : Code) (k : Nat), 0 < k → k ≤ i.n → Ix c k C' W' → i.S k W' → Mod (fun b => C0 b ∨ i.E b) w W' → (∀ b, C' b → b < W'.heap.size ∧ (C0 b ∨ w.heap.size ≤ b)) →
      c.wpIn (Fence.wide.inRound l₀) n P Q a W') :
    (Code.rangeFunc g ps assign body).wpIn (Fence.wide.inRound l₀) n P Q a w := by
  refine wpIn_rangeG (ro := some l₀) hg eg hok it hD hps I Ix Ax hI hIx hAx C0 hC0 h0 hs0 (fun fn => ?_) hassign hbody
  have hr := run_enterLoop_inner (P := P) hl₀ fn a.tmps ps assign body
  refine ⟨w.heap.size, _, _, by simp, by omega, hr, ⟨r₀.defers, World.alloc_heap_new w _⟩, (Mod.refl _ w).alloc _, fun W' C' hi hs hm hb hl hx => ?_, fun W' C' c k hk0 hk1' hi hs hm hb hl hx => ?_⟩
  · exact hdone W' C' hi hs hm hb
  · exact hstop W' C' c k hk0 hk1' hi hs hm hb
end
/-- An iterator over a fixed list, in the large. -/
def encIt (ar : Nat) (encs : List (Array Value)) (D : Nat → Prop) : It := ⟨encs.length, ar, fun k enc _ _ => encs[k]? = some enc, D, fun _ => False, fun _ _ => True⟩
theorem encIt_ok {ar : Nat} {encs : List (Array Value)} {D : Nat → Prop} (h : ∀ x ∈ encs, x.size = ar) : (encIt ar encs D).Ok :=
  ⟨fun k enc R W hk => h _ (List.mem_of_getElem? hk), fun _ _ _ _ _ h _ => h, fun _ _ _ _ _ => trivial, fun _ h => h.elim⟩
theorem Iter.toG {P : Program} {g : Nat} {lb : Array Value} {encs : List (Array Value)} {D : Nat → Prop} {w : World} (ar : Nat) (h : Iter P g lb encs D w) : IterG P g lb (encIt ar encs D) w := by
  intro l J Jx C0 W hA hE hC hJ hJx hY h0 _
  have hr : ∀ {Z : Nat → (Nat → Prop) → World → Prop} {k : Nat} {W' : World}, Rnd Z k C0 W W' → RndE (fun _ => False) Z k C0 W W' := fun ⟨C', h1, h2, h3⟩ => ⟨C', h1, h2.mono fun _ _ h => .inl h, h3⟩
  refine (h l J Jx C0 W hA (fun b hb => ⟨(hC b hb).1, (hC b hb).2.1⟩) hJ hJx (fun k hk C W1 h1 h2 h3 => ?_) h0).mono ?_
  · exact hY k hk encs[k] (fun _ => False) C W1 h1 trivial (List.getElem?_eq_getElem hk) (fun _ h => h.elim) (h2.mono fun _ _ h => .inl h) h3
  · rintro e W' ⟨h1, h2 | ⟨k, hk0, hk1, h2⟩⟩
    · exact ⟨h1, .inl ⟨trivial, hr h2⟩⟩
    · exact ⟨h1, .inr ⟨k, hk0, hk1, trivial, hr h2⟩⟩
end Go.Proofs.YtmalclclopnlnaaGreat
/-
  A region that only reads, in a round of a loop over a function: one walk serves every order.
-/
namespace Go.Proofs.YtmalclclopnlnaaGreat
open Go.RowKit

def notDefer (o : Oper) : Bool := match o.op with | .defer _ => false | _ => true
theorem notDefer_ne {o : Oper} (h : notDefer o = true) : ∀ c, o.op ≠ .defer c := fun c e => by simp [notDefer, e] at h

theorem all_notDefer {l : List Oper} (h : l.all notDefer = true) : ∀ (i : Nat) o, l.toArray[i]? = some o → notDefer o = true := fun _ o ho => List.all_eq_true.1 h o (List.mem_of_getElem? (by simpa using ho))
section
variable {F : Fence} {n l₀ : Nat} {P : Program} {ops : Array Oper} {md : Region.Mode} {Q : Exit → Act → World → Prop}

theorem upon_round {o : Oper} {a : Act} {K : Act → World → Prop} (r : Result Next) (h : o.uponIn F n P a K Q r) : o.uponIn (F.inRound l₀) n P a K Q r := by
  cases r with
  | ok x w => cases x <;> exact h
  | halt x w => exact h

theorem oper_round {o : Oper} {a : Act} {w : World} {K : Act → World → Prop} (hr : F.round = none) (hd : notDefer o = true) (h : o.wpIn F n P a w K Q) : o.wpIn (F.inRound l₀) n P a w K Q := by
  unfold Oper.wpIn at h ⊢
  refine ⟨h.1, ?_⟩
  have h2 := h.2
  rw [hr, Oper.semAt_none] at h2
  rw [Oper.semAt_eq _ _ _ (notDefer_ne hd)]
  exact upon_round _ h2

theorem any_round (hr : F.round = none) (hd : ∀ (i : Nat) o, ops[i]? = some o → notDefer o = true) : ∀ (fuel : Nat) (listed : Array Bool) (a : Act) (w : World), wpAnyIn F n P md ops Q fuel listed a w → wpAnyIn (F.inRound l₀) n P md ops Q fuel listed a w
  | 0, _, _, _, h => h
  | fuel + 1, listed, a, w, h => by
    refine ⟨h.1, fun i hi => ?_⟩
    have h1 := h.2 i hi
    unfold wpOpIn at h1 ⊢
    split
    · rename_i ho
      simp only [ho] at h1
      exact any_round hr hd fuel _ _ _ h1
    · rename_i o ho
      simp only [ho] at h1
      split
      · rename_i hw
        rw [if_pos hw] at h1
        exact oper_round hr (hd i o ho) (Oper.wpIn_mono (fun a' w' => any_round hr hd fuel _ a' w') h1)
      · rename_i hw
        rw [if_neg hw] at h1
        exact ⟨h1.1, any_round hr hd fuel _ _ _ h1.2⟩

theorem region_quiet_round {id : Nat} {a : Act} {w : World} {l : List Oper} (hr : F.round = none) (hm : P.follows .mixedOrders = true) (hB : Region.lexB .any l.toArray = true) (hd : l.all notDefer = true)
    (h : wpQuietIn F n P l.toArray (fun w' => ∃ n, w' = w.drewN n) (fun a' => ∀ w', (∃ n, w' = w.drewN n) → Q .normal a' w') l a) : (Code.region id l.toArray true).wpIn (F.inRound l₀) n P Q a w := by
  have hB' := hB
  simp only [Region.lexB, Bool.and_eq_true] at hB
  refine wpIn_region_any hm (any_round hr (fun i o ho => List.all_eq_true.1 hd o (List.mem_of_getElem? (by simpa using ho))) _ _ _ _ ?_)
  have hq := wpAnyQIn_lex (F := F) (n := n) (P := P) (C := fun w' => ∃ n, w' = w.drewN n) (md := .any) (ops := l.toArray) (Q := fun a' => ∀ w', (∃ n, w' = w.drewN n) → Q .normal a' w') hB.1 l 0 (Array.replicate l.toArray.size false) a (by simp) (by simpa using hB.2) h
  exact wpAnyIn_of_quiet (C := fun w' => ∃ n, w' = w.drewN n) (Q := fun a' => ∀ w', (∃ n, w' = w.drewN n) → Q .normal a' w') hr (fun _ w' hw' h => h w' hw') _ _ _ _ ⟨1, rfl⟩ (by simpa using hq)
end
end Go.Proofs.YtmalclclopnlnaaGreat
