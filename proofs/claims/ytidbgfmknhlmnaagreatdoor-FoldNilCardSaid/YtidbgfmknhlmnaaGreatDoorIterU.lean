/-
  Iterators whose order is not known ahead: the consumer's word is said of the list of what has come.
-/
import Derived.Test.YtidbgfmknhlmnaaGreatDoorIter
namespace Go.Proofs.YtidbgfmknhlmnaaGreatDoor
open Go.RowKit

structure ItU (α : Type) where
  ar : Nat
  enc : α → Array Value
  Ok : List α → Prop
  Fin : List α → Prop
  D : Nat → Prop
  E : Nat → Prop
abbrev WordU (α : Type) := List α → (Nat → Prop) → World → Prop
/-- A word of one history, as a word of numbers. -/
def WordU.at_ {α : Type} (J : WordU α) (p : List α) : Nat → (Nat → Prop) → World → Prop := fun _ => J p
def StabU {α : Type} (J : WordU α) : Prop := ∀ p C W W', J p C W → Agree C W W' → J p C W'
theorem StabU.at_ {α : Type} {J : WordU α} (h : StabU J) (p : List α) : Stab (J.at_ p) := fun _ C W W' hj ha => h p C W W' hj ha

def IterU (P : Program) (g : Nat) (lb : Array Value) {α : Type} (i : ItU α) (w0 : World) : Prop :=
  ∀ (l : Nat) (J Jx : WordU α) (C0 : Nat → Prop) (W : World), Agree i.D w0 W → (∀ b, i.E b → b < W.heap.size) → (∀ b, C0 b → b < W.heap.size ∧ ¬ i.D b ∧ ¬ i.E b) → StabU J → StabU Jx →
    (∀ (p : List α) (x : α), i.Ok (p ++ [x]) → ∀ (C : Nat → Prop) (W1 : World), J p C W1 → Mod (fun b => C0 b ∨ i.E b) W W1 → (∀ b, C b → b < W1.heap.size ∧ (C0 b ∨ W.heap.size ≤ b)) →
      Yields P l (i.enc x) W1 fun e W2 => (e = .returned (.bool true) ∧ Rnd (J.at_ (p ++ [x])) 0 C W1 W2) ∨ (e = .returned (.bool false) ∧ Rnd (Jx.at_ (p ++ [x])) 0 C W1 W2)) →
    J [] C0 W →
    Calls P g (#[.func (.yield l) #[] #[]] ++ lb) W fun e W' => (∃ v, e = .returned v) ∧ ((∃ p, i.Fin p ∧ RndE i.E (J.at_ p) 0 C0 W W') ∨ ∃ p x, i.Ok (p ++ [x]) ∧ RndE i.E (Jx.at_ (p ++ [x])) 0 C0 W W')

section
variable {P : Program} {α : Type}
/-- How the body of a round may be left. -/
def rndPostU (I : WordU α) (Ix : Code → WordU α) (p : List α) (C : Nat → Prop) (W : World) : Exit → Act → World → Prop
  | .normal, _, W' => Rnd (I.at_ p) 0 C W W'
  | .ret, _, W' => Rnd ((Ix .ret).at_ p) 0 C W W'
  | .exit id, _, W' => Rnd ((Ix (.exit id)).at_ p) 0 C W W'
  | .goto t, _, W' => Rnd ((Ix (.goto t)).at_ p) 0 C W W'
  | .panic _, _, _ => False
  | .outgrown, _, _ => False

/-- A range over such an iterator, in a function's own activation. -/
theorem wp_rangeU {g : Operand} {ps : Array Tmp} {assign body : Code} {Q : Exit → Act → World → Prop} {a : Act} {w : World} {n : Nat}
    {gf : Nat} {lb : Array Value} (hg : a.eval g = .func (.func gf) #[] lb) (eg : ∀ args w, (callFunc gf args).run P w = .ok (.enter gf args) w)
    {i : ItU α} (hsz : ∀ x, (i.enc x).size = ps.size) (hdis : ∀ b, i.E b → ¬ i.D b) (it : IterU P gf lb i w) (hD : ∀ b, i.D b ∨ i.E b → b < w.heap.size)
    (I : WordU α) (Ix : Code → WordU α) (Ax : Array Value → Array Value → Act → WordU α)
    (hI : StabU I) (hIx : ∀ c, StabU (Ix c)) (hAx : ∀ T enc a', StabU (Ax T enc a'))
    (C0 : Nat → Prop) (hC0 : ∀ b, C0 b → b < w.heap.size ∧ ¬ i.D b ∧ ¬ i.E b) (h0 : I [] C0 w)
    (hassign : ∀ (l : Nat) (p : List α) (x : α) (hp : i.Ok (p ++ [x])) (C : Nat → Prop) (W : World), I p C W → Mod (fun b => C0 b ∨ i.E b) w W → (∀ b, C b → b < W.heap.size ∧ (C0 b ∨ w.heap.size ≤ b)) →
      assign.wpIn (Fence.wide.inRound l) 0 P (Exit.then (fun a' W' => Rnd ((Ax a.tmps (i.enc x) a').at_ p) 0 C W W') (fun _ _ _ => False))
        { tmps := (ps.zip (i.enc x)).foldl (fun t (p, v) => t.setIfInBounds p v) a.tmps, defers := [] } W)
    (hbody : ∀ (l : Nat) (p : List α) (x : α) (_ : i.Ok (p ++ [x])) (C : Nat → Prop) (a' : Act) (W : World), Ax a.tmps (i.enc x) a' p C W → Mod (fun b => C0 b ∨ i.E b) w W → (∀ b, C b → b < W.heap.size ∧ (C0 b ∨ w.heap.size ≤ b)) →
      (∃ r, W.heap[l]? = some (.loop r)) → ¬ C l → w.heap.size ≤ l →
      body.wpIn (Fence.wide.inRound l) 0 P (rndPostU I Ix (p ++ [x]) C W) a' W)
    (hdone : ∀ (W' : World) (C' : Nat → Prop) (p : List α), i.Fin p → I p C' W' → Mod (fun b => C0 b ∨ i.E b) w W' → (∀ b, C' b → b < W'.heap.size ∧ (C0 b ∨ w.heap.size ≤ b)) →
      W'.heap[w.heap.size]? = some (.deferred (some [])) → ¬ C' w.heap.size → Q .normal { a with defers := { target := .collected w.heap.size, args := #[] } :: a.defers } W')
    (hstop : ∀ (W' : World) (C' : Nat → Prop) (c : Code) (p : List α), i.Ok p → Ix c p C' W' → Mod (fun b => C0 b ∨ i.E b) w W' → (∀ b, C' b → b < W'.heap.size ∧ (C0 b ∨ w.heap.size ≤ b)) →
      W'.heap[w.heap.size]? = some (.deferred (some [])) → ¬ C' w.heap.size → c.wpIn Fence.wide n P Q { a with defers := { target := .collected w.heap.size, args := #[] } :: a.defers } W') :
    (Code.rangeFunc g ps assign body).wpIn Fence.wide n P Q a w := by
  have hE0 : ∀ b, i.E b → b < w.heap.size := fun b hb => hD b (.inr hb)
  refine wpIn_rangeFunc ?_
  intro fn _
  have hr0 := run_enterLoop_outer (P := P) (w := w) fn a.tmps ps assign body
  obtain ⟨l, hl⟩ : ∃ l, l = w.heap.size + 1 := ⟨_, rfl⟩
  obtain ⟨rec, hreceq⟩ : ∃ rec : LoopState → Option Code → Loop, rec = fun st pe => { state := st, pending := pe, fn, tmps := a.tmps, params := ps, assign, body, defers := w.heap.size } := ⟨_, rfl⟩
  obtain ⟨W1, hW1⟩ : ∃ W1, W1 = (w.alloc (.deferred (some []))).alloc (.loop (rec .ready none)) := ⟨_, rfl⟩
  have hsz1 : W1.heap.size = w.heap.size + 2 := by rw [hW1]; simp
  have hl1 : l < W1.heap.size := by omega
  have hlw : w.heap.size ≤ l := by omega
  have hK1 : W1.heap[w.heap.size]? = some (.deferred (some [])) := by rw [hW1]; exact (Below.heap_alloc _ _ _ (by simp)).trans (World.alloc_heap_new w _)
  have hrec' : W1.heap[l]? = some (.loop (rec .ready none)) := by
    rw [hW1, hl]
    have := World.alloc_heap_new (w.alloc (.deferred (some []))) (.loop (rec .ready none))
    rwa [World.size_alloc] at this
  have hm1 : Mod (fun _ => False) w W1 := by rw [hW1]; exact ((Mod.refl _ w).alloc _).alloc _
  have hrun : (Instr.enterLoop fn a.tmps ps assign body none).run P w = .ok (l, [{ target := .collected w.heap.size, args := #[] }]) W1 := by rw [hW1, hl, hreceq]; exact hr0
  clear hW1 hr0 hsz1
  have hA1 : ∀ {E : Nat → Prop}, (∀ b, E b → b < w.heap.size) → Agree E w W1 := fun hE => hm1.agree (fun b hb => ⟨hE b hb, id⟩)
  have hI1 : I [] C0 W1 := hI _ _ _ _ h0 (hA1 (fun b hb => (hC0 b hb).1))
  have hlE : ¬ i.E l := fun h => by have := hE0 l h; omega
  refine ⟨l, [{ target := .collected w.heap.size, args := #[] }], W1, { target := .fn (.func gf) lb, args := #[.func (.yield l) #[] #[]] }, W1, gf, #[.func (.yield l) #[] #[]] ++ lb, W1, hrun, ?_, fun _ _ => trivial, ?_, fun _ => by simp_all [Fence.wide], ?_⟩
  · simp only [resolve, hg]
    simp [go_sem]
  · simp [invoke, go_sem, eg]
  let J : WordU α := fun p C W => ∃ C', I p C' W ∧ C = (fun b => C' b ∨ b = l) ∧ ¬ C' l ∧ W.heap[l]? = some (.loop (rec .ready none)) ∧ ¬ C' w.heap.size
  let Jx : WordU α := fun p C W => ∃ C' c, Ix c p C' W ∧ C = (fun b => C' b ∨ b = l) ∧ ¬ C' l ∧ W.heap[l]? = some (.loop (rec .done (some c))) ∧ ¬ C' w.heap.size
  have hJ : StabU J := by
    rintro p C W W' ⟨C', hi, rfl, hn, hl, hx⟩ hA
    exact ⟨C', hI _ _ _ _ hi (hA.mono fun b hb => .inl hb), rfl, hn, (hA.block l (.inr rfl)).trans hl, hx⟩
  have hJx : StabU Jx := by
    rintro p C W W' ⟨C', c, hi, rfl, hn, hl, hx⟩ hA
    exact ⟨C', c, hIx c _ _ _ _ hi (hA.mono fun b hb => .inl hb), rfl, hn, (hA.block l (.inr rfl)).trans hl, hx⟩
  have hcall := it l J Jx (fun b => C0 b ∨ b = l) W1 (hA1 fun b hb => hD b (.inl hb)) (fun b hb => Nat.lt_of_lt_of_le (hE0 b hb) hm1.size)
    (fun b hb => by
      rcases hb with hb | hb
      · exact ⟨by have := (hC0 b hb).1; have := hm1.size; omega, (hC0 b hb).2⟩
      · subst hb; exact ⟨hl1, fun hd => by have := hD _ (.inl hd); omega, hlE⟩) hJ hJx ?_ ⟨C0, hI1, rfl, fun hc => by have := (hC0 l hc).1; omega, hrec', fun hc => by have := (hC0 _ hc).1; omega⟩
  · refine (callsIn_wide.2 hcall).mono ?_
    have hfin : ∀ {C1 : Nat → Prop} {W2 : World}, Mod (fun b => (C0 b ∨ b = l) ∨ i.E b) W1 W2 → (∀ b, C1 b ∨ b = l → b < W2.heap.size ∧ ((C0 b ∨ b = l) ∨ W1.heap.size ≤ b)) → ¬ C1 l → ¬ C1 w.heap.size → ∀ o,
        Mod (fun b => C0 b ∨ i.E b) w (W2.putObj l o) ∧ (∀ b, C1 b → b < (W2.putObj l o).heap.size ∧ (C0 b ∨ w.heap.size ≤ b)) ∧ Agree C1 W2 (W2.putObj l o) ∧ (W2.putObj l o).heap[w.heap.size]? = some (.deferred (some [])) := by
      intro C1 W2 hm hb hn hx o
      refine ⟨?_, fun b hc => ?_, ?_, ?_⟩
      · refine Mod.putObj ?_ (.inr hlw) o
        refine (hm1.mono (fun _ _ h => h.elim) : Mod (fun b => C0 b ∨ i.E b) w W1).trans hm (fun b hb => ?_)
        rcases hb with (hb | hb) | hb
        · exact .inl (.inl hb)
        · subst hb; exact .inr hlw
        · exact .inl (.inr hb)
      · have := hb b (.inl hc)
        refine ⟨by simpa using this.1, ?_⟩
        rcases this.2 with (h | h) | h
        · exact .inl h
        · subst h; exact .inr hlw
        · exact .inr (by have := hm1.size; omega)
      · exact ⟨rfl, rfl, rfl, by simp, fun b hcb => World.putObj_heap_other (fun e => by subst e; exact hn hcb)⟩
      · refine (World.putObj_heap_other (by omega)).trans ((hm.block _ (hp_lt hK1) (fun h => ?_)).trans hK1)
        rcases h with (h | h) | h
        · have := (hC0 _ h).1; omega
        · omega
        · have := hE0 _ h; omega
    rintro e W2 ⟨⟨v, rfl⟩, h⟩
    rcases h with ⟨p, hfp, C', ⟨C1, hi, rfl, hn, hl2, hx⟩, hm, hb⟩ | ⟨p, x, hok, C', ⟨C1, c, hi, rfl, hn, hl2, hx⟩, hm, hb⟩
    · obtain ⟨f1, f2, f3, f4⟩ := hfin hm hb hn hx (.loop { rec .ready none with state := .exhausted })
      exact ⟨none, _, by have := run_endLoop (P := P) hl2 (by rw [hreceq]; simp); rw [hreceq] at this ⊢; exact this, hdone _ C1 p hfp (hI _ _ _ _ hi f3) f1 f2 f4 hx⟩
    · obtain ⟨f1, f2, f3, f4⟩ := hfin hm hb hn hx (.loop { rec .done (some c) with state := .exhausted })
      exact ⟨some c, _, by have := run_endLoop (P := P) hl2 (by rw [hreceq]; simp); rw [hreceq] at this ⊢; exact this, hstop _ C1 c (p ++ [x]) hok (hIx c _ _ _ _ hi f3) f1 f2 f4 hx⟩
  · rintro p x hok C W2 ⟨C1, hi, rfl, hn, hl2, hx⟩ hm hb
    have hbC1 : ∀ b, C1 b → b < W2.heap.size ∧ (C0 b ∨ w.heap.size ≤ b) := fun b hc => by
      have := hb b (.inl hc)
      refine ⟨this.1, ?_⟩
      rcases this.2 with (h | h) | h
      · exact .inl h
      · subst h; exact .inr hlw
      · exact .inr (by have := hm1.size; omega)
    have hmw : Mod (fun b => C0 b ∨ i.E b) w W2 := (hm1.mono (fun _ _ h => h.elim) : Mod (fun b => C0 b ∨ i.E b) w W1).trans hm (fun b hb => by
      rcases hb with (hb | hb) | hb
      · exact .inl (.inl hb)
      · subst hb; exact .inr hlw
      · exact .inl (.inr hb))
    have hkw : w.heap.size < W2.heap.size := by have := hp_lt hK1; have := hm.size; omega
    have hy := run_yield (P := P) (args := i.enc x) hl2 (by rw [hreceq]; exact hsz x)
    rw [hreceq] at hy
    refine ⟨fn, _, assign, body, hy, fun m => round_any (n := 0) ?_ m⟩
    clear hy
    refine roundIn_of_wpIn trivial (wpIn_mono (hassign l p x hok C1 W2 hi hmw hbC1) ?_)
    rintro e a' W3 h3
    cases e with
    | normal =>
      obtain ⟨C2, hax, hm3, hb3⟩ := h3
      have hlt2 : l < W2.heap.size := (Array.getElem?_eq_some_iff.1 hl2).1
      have hn2 : ¬ C2 l := fun hc => by rcases (hb3 l hc).2 with h | h; exact hn h; omega
      have hx2 : ¬ C2 w.heap.size := fun hc => by rcases (hb3 _ hc).2 with h | h; exact hx h; omega
      have hl3 : W3.heap[l]? = some (.loop (rec .ready none)) := (hm3.block l hlt2 hn).trans hl2
      have hlt3 : l < W3.heap.size := (Array.getElem?_eq_some_iff.1 hl3).1
      refine ⟨_, run_beginRound hl3 (by rw [hreceq]), ?_⟩
      have hl4 : (W3.putObj l (.loop { rec .ready none with state := .busy })).heap[l]? = some (.loop { rec .ready none with state := .busy }) := World.putObj_heap_same hlt3
      have hax4 : Ax a.tmps (i.enc x) a' p C2 (W3.putObj l (.loop { rec .ready none with state := .busy })) :=
        hAx _ _ a' _ _ _ _ hax ⟨rfl, rfl, rfl, by simp, fun b hcb => World.putObj_heap_other (fun e => by subst e; exact hn2 hcb)⟩
      have hmw4 : Mod (fun b => C0 b ∨ i.E b) w (W3.putObj l (.loop { rec .ready none with state := .busy })) :=
        (hmw.trans hm3 (fun b hb => (hbC1 b hb).2.elim (fun h => .inl (.inl h)) .inr)).putObj (.inr hlw) _
      have hbw4 : ∀ b, C2 b → b < (W3.putObj l (.loop { rec .ready none with state := .busy })).heap.size ∧ (C0 b ∨ w.heap.size ≤ b) := fun b hb => by
        have := hb3 b hb
        refine ⟨by simpa using this.1, ?_⟩
        rcases this.2 with h | h
        · exact (hbC1 b h).2
        · exact .inr (by have := hmw.size; omega)
      refine wpIn_mono (hbody l p x hok C2 a' _ hax4 hmw4 hbw4 ⟨_, hl4⟩ hn2 hlw) ?_
      have fin : ∀ (Z : WordU α) (_ : StabU Z) (jump : Option Code) (W5 : World), Rnd (Z.at_ (p ++ [x])) 0 C2 (W3.putObj l (.loop { rec .ready none with state := .busy })) W5 →
          ∃ W6, (Instr.endRound l jump).run P W5 = .ok (.bool jump.isNone) W6 ∧
            ∃ C3, Z (p ++ [x]) C3 W6 ∧ ¬ C3 l ∧ W6.heap[l]? = some (.loop (rec (if jump.isNone then .ready else .done) jump)) ∧ ¬ C3 w.heap.size ∧
              Mod (fun b => C1 b ∨ b = l) W2 W6 ∧ (∀ b, C3 b ∨ b = l → b < W6.heap.size ∧ ((C1 b ∨ b = l) ∨ W2.heap.size ≤ b)) := by
        rintro Z hZ jump W5 ⟨C3, hz, hm5, hb5⟩
        have hl5 : W5.heap[l]? = some (.loop { rec .ready none with state := .busy }) := (hm5.block l (by simpa using hlt3) hn2).trans hl4
        have hlt5 : l < W5.heap.size := (Array.getElem?_eq_some_iff.1 hl5).1
        have hn3 : ¬ C3 l := fun hc => by rcases (hb5 l hc).2 with h | h; exact hn2 h; simp at h; omega
        have hx3 : ¬ C3 w.heap.size := fun hc => by
          rcases (hb5 _ hc).2 with h | h
          · exact hx2 h
          · simp at h; have := hm3.size; omega
        have hr := run_endRound (P := P) jump hl5
        refine ⟨_, hr, C3, hZ _ _ _ _ hz ⟨rfl, rfl, rfl, by simp, fun b hcb => World.putObj_heap_other (fun e => by subst e; exact hn3 hcb)⟩, hn3, ?_, hx3, ?_, fun b hb => ?_⟩
        · rw [hreceq]; exact World.putObj_heap_same hlt5
        · have h23 : Mod (fun b => C1 b ∨ b = l) W2 W3 := hm3.mono (fun _ _ h => .inl h)
          refine Mod.putObj ((h23.putObj (.inl (.inr rfl)) _).trans hm5 (fun b hb => ?_)) (.inl (.inr rfl)) _
          rcases (hb3 b hb).2 with h | h
          · exact .inl (.inl h)
          · exact .inr h
        · have hs3 := hm3.size
          rcases hb with hb | hb
          · refine ⟨by simpa using (hb5 b hb).1, ?_⟩
            rcases (hb5 b hb).2 with h | h
            · rcases (hb3 b h).2 with h' | h'
              · exact .inl (.inl h')
              · exact .inr h'
            · exact .inr (by simp at h; omega)
          · subst hb; exact ⟨by simpa using hlt5, .inl (.inr rfl)⟩
      rintro e a3 W5 hp
      cases e with
      | normal =>
        obtain ⟨W6, hr, C3, hz, h1, h2, h3, h4, h5⟩ := fin I hI none W5 hp
        exact ⟨_, _, hr, .inl ⟨rfl, _, ⟨C3, hz, rfl, h1, h2, h3⟩, h4, h5⟩⟩
      | ret =>
        obtain ⟨W6, hr, C3, hz, h1, h2, h3, h4, h5⟩ := fin _ (hIx _) (some .ret) W5 hp
        exact ⟨_, _, hr, .inr ⟨rfl, _, ⟨C3, _, hz, rfl, h1, h2, h3⟩, h4, h5⟩⟩
      | exit id =>
        obtain ⟨W6, hr, C3, hz, h1, h2, h3, h4, h5⟩ := fin _ (hIx _) (some (.exit id)) W5 hp
        exact ⟨_, _, hr, .inr ⟨rfl, _, ⟨C3, _, hz, rfl, h1, h2, h3⟩, h4, h5⟩⟩
      | goto t =>
        obtain ⟨W6, hr, C3, hz, h1, h2, h3, h4, h5⟩ := fin _ (hIx _) (some (.goto t)) W5 hp
        exact ⟨_, _, hr, .inr ⟨rfl, _, ⟨C3, _, hz, rfl, h1, h2, h3⟩, h4, h5⟩⟩
      | panic ch => exact hp.elim
      | outgrown => exact hp.elim
    | ret => exact h3.elim
    | exit id => exact h3.elim
    | goto t => exact h3.elim
    | panic ch => exact h3.elim
    | outgrown => exact h3.elim
end
end Go.Proofs.YtidbgfmknhlmnaaGreatDoor
