/-
  Texts of this claim, one behind the other: IterU, Keys, CliE.
-/
import Derived.Test.YtmalclclopnlnaaGreatPk01
import Derived.Test.YtmalclclopnlnaaGreatPk05
import Derived.Test.YtmalclclopnlnaaGreatPk17
import Derived.Test.YtmalclclopnlnaaGreatPk22
import Derived.Test.YtmalclclopnlnaaGreatPk29
import Derived.Deep.DeepFit
import Derived.Test.YtmalclclopnlnaaGreatClShelf
/-
  Iterators whose order is not known ahead: the consumer's word is said of the list of what has come.
-/
namespace Go.Proofs.YtmalclclopnlnaaGreat
open Go.RowKit

structure ItU (α : Type) where
  ar : Nat
  enc : α → Array Value
  Ok : List α → Prop
  Fin : List α → Prop
  D : Nat → Prop
  E : Nat → Prop
abbrev WordU (α : Type) := List α → (Nat → Prop) → World → Prop
/-- A word of one history, as a word of numbers. -/
def WordU.at_ {α : Type} (J : WordU α) (p : List α) : Nat → (Nat → Prop) → World → Prop := fun _ => J p
def StabU {α : Type} (J : WordU α) : Prop := ∀ p C W W', J p C W → Agree C W W' → J p C W'
theorem StabU.at_ {α : Type} {J : WordU α} (h : StabU J) (p : List α) : Stab (J.at_ p) := fun _ C W W' hj ha => h p C W W' hj ha

def IterU (P : Program) (g : Nat) (lb : Array Value) {α : Type} (i : ItU α) (w0 : World) : Prop :=
  ∀ (l : Nat) (J Jx : WordU α) (C0 : Nat → Prop) (W : World), Agree i.D w0 W → (∀ b, i.E b → b < W.heap.size) → (∀ b, C0 b → b < W.heap.size ∧ ¬ i.D b ∧ ¬ i.E b) → StabU J → StabU Jx →
    (∀ (p : List α) (x : α), i.Ok (p ++ [x]) → ∀ (C : Nat → Prop) (W1 : World), J p C W1 → Mod (fun b => C0 b ∨ i.E b) W W1 → (∀ b, C b → b < W1.heap.size ∧ (C0 b ∨ W.heap.size ≤ b)) →
      Yields P l (i.enc x) W1 fun e W2 => (e = .returned (.bool true) ∧ Rnd (J.at_ (p ++ [x])) 0 C W1 W2) ∨ (e = .returned (.bool false) ∧ Rnd (Jx.at_ (p ++ [x])) 0 C W1 W2)) →
    J [] C0 W →
    Calls P g (#[.func (.yield l) #[] #[]] ++ lb) W fun e W' => (∃ v, e = .returned v) ∧ ((∃ p, i.Fin p ∧ RndE i.E (J.at_ p) 0 C0 W W') ∨ ∃ p x, i.Ok (p ++ [x]) ∧ RndE i.E (Jx.at_ (p ++ [x])) 0 C0 W W')

section
variable {P : Program} {α : Type}
/-- How the body of a round may be left. -/
def rndPostU (I : WordU α) (Ix : Code → WordU α) (p : List α) (C : Nat → Prop) (W : World) : Exit → Act → World → Prop
  | .normal, _, W' => Rnd (I.at_ p) 0 C W W'
  | .ret, _, W' => Rnd ((Ix .ret).at_ p) 0 C W W'
  | .exit id, _, W' => Rnd ((Ix (.exit id)).at_ p) 0 C W W'
  | .goto t, _, W' => Rnd ((Ix (.goto t)).at_ p) 0 C W W'
  | .panic _, _, _ => False
  | .outgrown, _, _ => False

/-- A range over such an iterator, in a function's own activation. -/
theorem wp_rangeU {g : Operand} {ps : Array Tmp} {assign body : Code} {Q : Exit → Act → World → Prop} {a : Act} {w : World} {n : Nat}
    {gf : Nat} {lb : Array Value} (hg : a.eval g = .func (.func gf) #[] lb) (eg : ∀ args w, (callFunc gf args).run P w = .ok (.enter gf args) w)
    {i : ItU α} (hsz : ∀ x, (i.enc x).size = ps.size) (hdis : ∀ b, i.E b → ¬ i.D b) (it : IterU P gf lb i w) (hD : ∀ b, i.D b ∨ i.E b → b < w.heap.size)
    (I : WordU α) (Ix : Code → WordU α) (Ax : Array Value → Array Value → Act → WordU α)
    (hI : StabU I) (hIx : ∀ c, StabU (Ix c)) (hAx : ∀ T enc a', StabU (Ax T enc a'))
    (C0 : Nat → Prop) (hC0 : ∀ b, C0 b → b < w.heap.size ∧ ¬ i.D b ∧ ¬ i.E b) (h0 : I [] C0 w)
    (hassign : ∀ (l : Nat) (p : List α) (x : α) (hp : i.Ok (p ++ [x])) (C : Nat → Prop) (W : World), I p C W → Mod (fun b => C0 b ∨ i.E b) w W → (∀ b, C b → b < W.heap.size ∧ (C0 b ∨ w.heap.size ≤ b)) →
      assign.wpIn (Fence.wide.inRound l) 0 P (Exit.then (fun a' W' => Rnd ((Ax a.tmps (i.enc x) a').at_ p) 0 C W W') (fun _ _ _ => False))
        { tmps := (ps.zip (i.enc x)).foldl (fun t (p, v) => t.setIfInBounds p v) a.tmps, defers := [] } W)
    (hbody : ∀ (l : Nat) (p : List α) (x : α) (_ : i.Ok (p ++ [x])) (C : Nat → Prop) (a' : Act) (W : World), Ax a.tmps (i.enc x) a' p C W → Mod (fun b => C0 b ∨ i.E b) w W → (∀ b, C b → b < W.heap.size ∧ (C0 b ∨ w.heap.size ≤ b)) →
      (∃ r, W.heap[l]? = some (.loop r)) → ¬ C l → w.heap.size ≤ l →
      body.wpIn (Fence.wide.inRound l) 0 P (rndPostU I Ix (p ++ [x]) C W) a' W)
    (hdone : ∀ (W' : World) (C' : Nat → Prop) (p : List α), i.Fin p → I p C' W' → Mod (fun b => C0 b ∨ i.E b) w W' → (∀ b, C' b → b < W'.heap.size ∧ (C0 b ∨ w.heap.size ≤ b)) →
      W'.heap[w.heap.size]? = some (.deferred (some [])) → ¬ C' w.heap.size → Q .normal { a with defers := { target := .collected w.heap.size, args := #[] } :: a.defers } W')
    (hstop : ∀ (W' : World) (C' : Nat → Prop) (c : Code) (p : List α), i.Ok p → Ix c p C' W' → Mod (fun b => C0 b ∨ i.E b) w W' → (∀ b, C' b → b < W'.heap.size ∧ (C0 b ∨ w.heap.size ≤ b)) →
      W'.heap[w.heap.size]? = some (.deferred (some [])) → ¬ C' w.heap.size → c.wpIn Fence.wide n P Q { a with defers := { target := .collected w.heap.size, args := #[] } :: a.defers } W') :
    (Code.rangeFunc g ps assign body).wpIn Fence.wide n P Q a w := by
  have hE0 : ∀ b, i.E b → b < w.heap.size := fun b hb => hD b (.inr hb)
  refine wpIn_rangeFunc ?_
  intro fn _
  have hr0 := run_enterLoop_outer (P := P) (w := w) fn a.tmps ps assign body
  obtain ⟨l, hl⟩ : ∃ l, l = w.heap.size + 1 := ⟨_, rfl⟩
  obtain ⟨rec, hreceq⟩ : ∃ rec : LoopState → Option Code → Loop, rec = fun st pe => { state := st, pending := pe, fn, tmps := a.tmps, params := ps, assign, body, defers := w.heap.size } := ⟨_, rfl⟩
  obtain ⟨W1, hW1⟩ : ∃ W1, W1 = (w.alloc (.deferred (some []))).alloc (.loop (rec .ready none)) := ⟨_, rfl⟩
  have hsz1 : W1.heap.size = w.heap.size + 2 := by rw [hW1]; simp
  have hl1 : l < W1.heap.size := by omega
  have hlw : w.heap.size ≤ l := by omega
  have hK1 : W1.heap[w.heap.size]? = some (.deferred (some [])) := by rw [hW1]; exact (Below.heap_alloc _ _ _ (by simp)).trans (World.alloc_heap_new w _)
  have hrec' : W1.heap[l]? = some (.loop (rec .ready none)) := by
    rw [hW1, hl]
    have := World.alloc_heap_new (w.alloc (.deferred (some []))) (.loop (rec .ready none))
    rwa [World.size_alloc] at this
  have hm1 : Mod (fun _ => False) w W1 := by rw [hW1]; exact ((Mod.refl _ w).alloc _).alloc _
  have hrun : (Instr.enterLoop fn a.tmps ps assign body none).run P w = .ok (l, [{ target := .collected w.heap.size, args := #[] }]) W1 := by rw [hW1, hl, hreceq]; exact hr0
  clear hW1 hr0 hsz1
  have hA1 : ∀ {E : Nat → Prop}, (∀ b, E b → b < w.heap.size) → Agree E w W1 := fun hE => hm1.agree (fun b hb => ⟨hE b hb, id⟩)
  have hI1 : I [] C0 W1 := hI _ _ _ _ h0 (hA1 (fun b hb => (hC0 b hb).1))
  have hlE : ¬ i.E l := fun h => by have := hE0 l h; omega
  refine ⟨l, [{ target := .collected w.heap.size, args := #[] }], W1, { target := .fn (.func gf) lb, args := #[.func (.yield l) #[] #[]] }, W1, gf, #[.func (.yield l) #[] #[]] ++ lb, W1, hrun, ?_, fun _ _ => trivial, ?_, fun _ => by simp_all [Fence.wide], ?_⟩
  · simp only [resolve, hg]
    simp [go_sem]
  · simp [invoke, go_sem, eg]
  let J : WordU α := fun p C W => ∃ C', I p C' W ∧ C = (fun b => C' b ∨ b = l) ∧ ¬ C' l ∧ W.heap[l]? = some (.loop (rec .ready none)) ∧ ¬ C' w.heap.size
  let Jx : WordU α := fun p C W => ∃ C' c, Ix c p C' W ∧ C = (fun b => C' b ∨ b = l) ∧ ¬ C' l ∧ W.heap[l]? = some (.loop (rec .done (some c))) ∧ ¬ C' w.heap.size
  have hJ : StabU J := by
    rintro p C W W' ⟨C', hi, rfl, hn, hl, hx⟩ hA
    exact ⟨C', hI _ _ _ _ hi (hA.mono fun b hb => .inl hb), rfl, hn, (hA.block l (.inr rfl)).trans hl, hx⟩
  have hJx : StabU Jx := by
    rintro p C W W' ⟨C', c, hi, rfl, hn, hl, hx⟩ hA
    exact ⟨C', c, hIx c _ _ _ _ hi (hA.mono fun b hb => .inl hb), rfl, hn, (hA.block l (.inr rfl)).trans hl, hx⟩
  have hcall := it l J Jx (fun b => C0 b ∨ b = l) W1 (hA1 fun b hb => hD b (.inl hb)) (fun b hb => Nat.lt_of_lt_of_le (hE0 b hb) hm1.size)
    (fun b hb => by
      rcases hb with hb | hb
      · exact ⟨by have := (hC0 b hb).1; have := hm1.size; omega, (hC0 b hb).2⟩
      · subst hb; exact ⟨hl1, fun hd => by have := hD _ (.inl hd); omega, hlE⟩) hJ hJx ?_ ⟨C0, hI1, rfl, fun hc => by have := (hC0 l hc).1; omega, hrec', fun hc => by have := (hC0 _ hc).1; omega⟩
  · refine (callsIn_wide.2 hcall).mono ?_
    have hfin : ∀ {C1 : Nat → Prop} {W2 : World}, Mod (fun b => (C0 b ∨ b = l) ∨ i.E b) W1 W2 → (∀ b, C1 b ∨ b = l → b < W2.heap.size ∧ ((C0 b ∨ b = l) ∨ W1.heap.size ≤ b)) → ¬ C1 l → ¬ C1 w.heap.size → ∀ o,
        Mod (fun b => C0 b ∨ i.E b) w (W2.putObj l o) ∧ (∀ b, C1 b → b < (W2.putObj l o).heap.size ∧ (C0 b ∨ w.heap.size ≤ b)) ∧ Agree C1 W2 (W2.putObj l o) ∧ (W2.putObj l o).heap[w.heap.size]? = some (.deferred (some [])) := by
      intro C1 W2 hm hb hn hx o
      refine ⟨?_, fun b hc => ?_, ?_, ?_⟩
      · refine Mod.putObj ?_ (.inr hlw) o
        refine (hm1.mono (fun _ _ h => h.elim) : Mod (fun b => C0 b ∨ i.E b) w W1).trans hm (fun b hb => ?_)
        rcases hb with (hb | hb) | hb
        · exact .inl (.inl hb)
        · subst hb; exact .inr hlw
        · exact .inl (.inr hb)
      · have := hb b (.inl hc)
        refine ⟨by simpa using this.1, ?_⟩
        rcases this.2 with (h | h) | h
        · exact .inl h
        · subst h; exact .inr hlw
        · exact .inr (by have := hm1.size; omega)
      · exact ⟨rfl, rfl, rfl, by simp, fun b hcb => World.putObj_heap_other (fun e => by subst e; exact hn hcb)⟩
      · refine (World.putObj_heap_other (by omega)).trans ((hm.block _ (hp_lt hK1) (fun h => ?_)).trans hK1)
        rcases h with (h | h) | h
        · have := (hC0 _ h).1; omega
        · omega
        · have := hE0 _ h; omega
    rintro e W2 ⟨⟨v, rfl⟩, h⟩
    rcases h with ⟨p, hfp, C', ⟨C1, hi, rfl, hn, hl2, hx⟩, hm, hb⟩ | ⟨p, x, hok, C', ⟨C1, c, hi, rfl, hn, hl2, hx⟩, hm, hb⟩
    · obtain ⟨f1, f2, f3, f4⟩ := hfin hm hb hn hx (.loop { rec .ready none with state := .exhausted })
      exact ⟨none, _, by have := run_endLoop (P := P) hl2 (by rw [hreceq]; simp); rw [hreceq] at this ⊢; exact this, hdone _ C1 p hfp (hI _ _ _ _ hi f3) f1 f2 f4 hx⟩
    · obtain ⟨f1, f2, f3, f4⟩ := hfin hm hb hn hx (.loop { rec .done (some c) with state := .exhausted })
      exact ⟨some c, _, by have := run_endLoop (P := P) hl2 (by rw [hreceq]; simp); rw [hreceq] at this ⊢; exact this, hstop _ C1 c (p ++ [x]) hok (hIx c _ _ _ _ hi f3) f1 f2 f4 hx⟩
  · rintro p x hok C W2 ⟨C1, hi, rfl, hn, hl2, hx⟩ hm hb
    have hbC1 : ∀ b, C1 b → b < W2.heap.size ∧ (C0 b ∨ w.heap.size ≤ b) := fun b hc => by
      have := hb b (.inl hc)
      refine ⟨this.1, ?_⟩
      rcases this.2 with (h | h) | h
      · exact .inl h
      · subst h; exact .inr hlw
      · exact .inr (by have := hm1.size; omega)
    have hmw : Mod (fun b => C0 b ∨ i.E b) w W2 := (hm1.mono (fun _ _ h => h.elim) : Mod (fun b => C0 b ∨ i.E b) w W1).trans hm (fun b hb => by
      rcases hb with (hb | hb) | hb
      · exact .inl (.inl hb)
      · subst hb; exact .inr hlw
      · exact .inl (.inr hb))
    have hkw : w.heap.size < W2.heap.size := by have := hp_lt hK1; have := hm.size; omega
    have hy := run_yield (P := P) (args := i.enc x) hl2 (by rw [hreceq]; exact hsz x)
    rw [hreceq] at hy
    refine ⟨fn, _, assign, body, hy, fun m => round_any (n := 0) ?_ m⟩
    clear hy
    refine roundIn_of_wpIn trivial (wpIn_mono (hassign l p x hok C1 W2 hi hmw hbC1) ?_)
    rintro e a' W3 h3
    cases e with
    | normal =>
      obtain ⟨C2, hax, hm3, hb3⟩ := h3
      have hlt2 : l < W2.heap.size := (Array.getElem?_eq_some_iff.1 hl2).1
      have hn2 : ¬ C2 l := fun hc => by rcases (hb3 l hc).2 with h | h; exact hn h; omega
      have hx2 : ¬ C2 w.heap.size := fun hc => by rcases (hb3 _ hc).2 with h | h; exact hx h; omega
      have hl3 : W3.heap[l]? = some (.loop (rec .ready none)) := (hm3.block l hlt2 hn).trans hl2
      have hlt3 : l < W3.heap.size := (Array.getElem?_eq_some_iff.1 hl3).1
      refine ⟨_, run_beginRound hl3 (by rw [hreceq]), ?_⟩
      have hl4 : (W3.putObj l (.loop { rec .ready none with state := .busy })).heap[l]? = some (.loop { rec .ready none with state := .busy }) := World.putObj_heap_same hlt3
      have hax4 : Ax a.tmps (i.enc x) a' p C2 (W3.putObj l (.loop { rec .ready none with state := .busy })) :=
        hAx _ _ a' _ _ _ _ hax ⟨rfl, rfl, rfl, by simp, fun b hcb => World.putObj_heap_other (fun e => by subst e; exact hn2 hcb)⟩
      have hmw4 : Mod (fun b => C0 b ∨ i.E b) w (W3.putObj l (.loop { rec .ready none with state := .busy })) :=
        (hmw.trans hm3 (fun b hb => (hbC1 b hb).2.elim (fun h => .inl (.inl h)) .inr)).putObj (.inr hlw) _
      have hbw4 : ∀ b, C2 b → b < (W3.putObj l (.loop { rec .ready none with state := .busy })).heap.size ∧ (C0 b ∨ w.heap.size ≤ b) := fun b hb => by
        have := hb3 b hb
        refine ⟨by simpa using this.1, ?_⟩
        rcases this.2 with h | h
        · exact (hbC1 b h).2
        · exact .inr (by have := hmw.size; omega)
      refine wpIn_mono (hbody l p x hok C2 a' _ hax4 hmw4 hbw4 ⟨_, hl4⟩ hn2 hlw) ?_
      have fin : ∀ (Z : WordU α) (_ : StabU Z) (jump : Option Code) (W5 : World), Rnd (Z.at_ (p ++ [x])) 0 C2 (W3.putObj l (.loop { rec .ready none with state := .busy })) W5 →
          ∃ W6, (Instr.endRound l jump).run P W5 = .ok (.bool jump.isNone) W6 ∧
            ∃ C3, Z (p ++ [x]) C3 W6 ∧ ¬ C3 l ∧ W6.heap[l]? = some (.loop (rec (if jump.isNone then .ready else .done) jump)) ∧ ¬ C3 w.heap.size ∧
              Mod (fun b => C1 b ∨ b = l) W2 W6 ∧ (∀ b, C3 b ∨ b = l → b < W6.heap.size ∧ ((C1 b ∨ b = l) ∨ W2.heap.size ≤ b)) := by
        rintro Z hZ jump W5 ⟨C3, hz, hm5, hb5⟩
        have hl5 : W5.heap[l]? = some (.loop { rec .ready none with state := .busy }) := (hm5.block l (by simpa using hlt3) hn2).trans hl4
        have hlt5 : l < W5.heap.size := (Array.getElem?_eq_some_iff.1 hl5).1
        have hn3 : ¬ C3 l := fun hc => by rcases (hb5 l hc).2 with h | h; exact hn2 h; simp at h; omega
        have hx3 : ¬ C3 w.heap.size := fun hc => by
          rcases (hb5 _ hc).2 with h | h
          · exact hx2 h
          · simp at h; have := hm3.size; omega
        have hr := run_endRound (P := P) jump hl5
        refine ⟨_, hr, C3, hZ _ _ _ _ hz ⟨rfl, rfl, rfl, by simp, fun b hcb => World.putObj_heap_other (fun e => by subst e; exact hn3 hcb)⟩, hn3, ?_, hx3, ?_, fun b hb => ?_⟩
        · rw [hreceq]; exact World.putObj_heap_same hlt5
        · have h23 : Mod (fun b => C1 b ∨ b = l) W2 W3 := hm3.mono (fun _ _ h => .inl h)
          refine Mod.putObj ((h23.putObj (.inl (.inr rfl)) _).trans hm5 (fun b hb => ?_)) (.inl (.inr rfl)) _
          rcases (hb3 b hb).2 with h | h
          · exact .inl (.inl h)
          · exact .inr h
        · have hs3 := hm3.size
          rcases hb with hb | hb
          · refine ⟨by simpa using (hb5 b hb).1, ?_⟩
            rcases (hb5 b hb).2 with h | h
            · rcases (hb3 b h).2 with h' | h'
              · exact .inl (.inl h')
              · exact .inr h'
            · exact .inr (by simp at h; omega)
          · subst hb; exact ⟨by simpa using hlt5, .inl (.inr rfl)⟩
      rintro e a3 W5 hp
      cases e with
      | normal =>
        obtain ⟨W6, hr, C3, hz, h1, h2, h3, h4, h5⟩ := fin I hI none W5 hp
        exact ⟨_, _, hr, .inl ⟨rfl, _, ⟨C3, hz, rfl, h1, h2, h3⟩, h4, h5⟩⟩
      | ret =>
        obtain ⟨W6, hr, C3, hz, h1, h2, h3, h4, h5⟩ := fin _ (hIx _) (some .ret) W5 hp
        exact ⟨_, _, hr, .inr ⟨rfl, _, ⟨C3, _, hz, rfl, h1, h2, h3⟩, h4, h5⟩⟩
      | exit id =>
        obtain ⟨W6, hr, C3, hz, h1, h2, h3, h4, h5⟩ := fin _ (hIx _) (some (.exit id)) W5 hp
        exact ⟨_, _, hr, .inr ⟨rfl, _, ⟨C3, _, hz, rfl, h1, h2, h3⟩, h4, h5⟩⟩
      | goto t =>
        obtain ⟨W6, hr, C3, hz, h1, h2, h3, h4, h5⟩ := fin _ (hIx _) (some (.goto t)) W5 hp
        exact ⟨_, _, hr, .inr ⟨rfl, _, ⟨C3, _, hz, rfl, h1, h2, h3⟩, h4, h5⟩⟩
      | panic ch => exact hp.elim
      | outgrown => exact hp.elim
    | ret => exact h3.elim
    | exit id => exact h3.elim
    | goto t => exact h3.elim
    | panic ch => exact h3.elim
    | outgrown => exact h3.elim
end
end Go.Proofs.YtmalclclopnlnaaGreat
/-
  A map's keys, collected and sorted.
-/
namespace Go.Proofs.YtmalclclopnlnaaGreat
open Go.RowKit Go.Shelf
attribute [local go_sem] Oper.semAt_some

def kvK (n : Int) : Value := .int .u64 n
theorem kvK_t : KeyT kvK Tryz.prog 30 := ⟨fun a b h => by injection h, _, Tryz.underlying30, fun a => by simp [MapKept.IsKey, kvK]⟩
theorem keys_t : SliceT Tryz.prog 87 30 1 8 := SliceT.mk' (z := .int .u64 0) Tryz.underlying87 (by kernel_rfl) rfl (by decide)
/-- A map's keys, by their places. -/
def keyAt (L : List (Int × Value)) (j : Nat) : Int := at_ (L.map Prod.fst) j
theorem keyAt_lt {L : List (Int × Value)} {j : Nat} (h : j < L.length) : keyAt L j = L[j].1 := by unfold keyAt; rw [at_lt (by simpa using h)]; simp
def keysU (L : List (Int × Value)) (b Bt : Nat) : ItU Nat := ⟨1, fun j => #[kvK (keyAt L j)], fun p => p.Nodup ∧ ∀ j ∈ p, j < L.length, fun p => p.Perm (List.range L.length), fun x => x = b ∨ x = Bt, fun _ => False⟩
/-- How many a range has seen. -/
def seenN (w : World) (r : Nat) : Nat := match w.heap[r]? with | some (.mapIter _ _ s _) => s.size | _ => 0
theorem RgAt.seenN {κ : Type} {w : World} {b r : Nat} {kv : κ → Value} {L : List (κ × Value)} {seen : List Nat} (h : RgAt w b r kv L seen) : seenN w r = seen.length := by
  unfold Go.Proofs.YtmalclclopnlnaaGreat.seenN
  rw [h.it]
  simp [rgO]
set_option maxRecDepth 100000 in
set_option maxHeartbeats 1000000 in
theorem keys1_iter (Bt b : Nat) (L : List (Int × Value)) (w : World) (hBt : w.cell? ⟨Bt, 0, none⟩ = some (.map (some b))) (hb : w.heap[b]? = some (mapO kvK L)) :
    IterU Tryz.prog 58 #[.pointer (some ⟨Bt, 0, none⟩)] (keysU L b Bt) w := by
  intro y J Jx C0 W hAg hE hC hJ hJx hY h0
  have hBt' := (hAg.cell (p := ⟨Bt, 0, none⟩) (.inr rfl)).trans hBt
  have hb' : W.heap[b]? = some (mapO kvK L) := (hAg.block b (.inl rfl)).trans hb
  have hbW := hp_lt hb'
  have HBC := Lib.hid (show ¬ C0 b from fun h => (hC b h).2.1 (.inl rfl))
  have HC := Lib.hid hC
  have HY := Lib.hid hY
  clear hBt hb hAg hE hC hY
  refine callsIn_wide.1 (callsIn_of_wp (n := 0) (F := Fence.wide) Tryz.func58 rfl trivial ?_ rfl)
  simp only [Tryz.ntmps58, List.size_toArray, List.length_cons, List.length_nil, Nat.reduceAdd, Nat.reduceSub, Array.replicate_succ, Array.replicate_zero, List.push_toArray, List.append_toArray, List.nil_append, List.cons_append]
  gi_wp2_with (first
    | (gi_at_range; refine wpListIn_mrange (kv := kvK) rfl _ 45 rfl _ _ Tryz.underlying45 hb' rfl ?_; intro w0 hrg hm0)
    | fail)
  go_frame
  gi_loopw [3] (fun _ wr => ∃ (seen : List Nat) (C : Nat → Prop), RgAt wr b W.heap.size kvK L seen ∧ J seen C wr ∧ Mod C0 W wr ∧ (∀ x, C x → x < wr.heap.size ∧ (C0 x ∨ W.heap.size < x))) (fun _ wr => L.length - seenN wr W.heap.size)
  case atStart =>
    refine ⟨[], C0, hrg, hJ _ _ _ _ h0 (hm0.agree fun x hx => ⟨(HC.out x hx).1, id⟩), hm0.mono fun _ _ h => h.elim, fun x hx => ⟨Nat.lt_of_lt_of_le (HC.out x hx).1 hm0.size, .inl hx⟩⟩
  case round =>
    obtain ⟨seen, C, hr, hj, hm, hCx⟩ := hrel
    have hrC : ¬ C W.heap.size := fun h => by
      rcases (hCx _ h).2 with h | h
      · have := (HC.out _ h).1; omega
      · omega
    have hbC : ¬ C b := fun h => by
      rcases (hCx _ h).2 with h | h
      · exact HBC.out h
      · omega
    have HRg := Lib.hid hr
    have HCx := Lib.hid hCx
    have HM := Lib.hid hm
    clear hCx hm
    gi_wp2_with (first
      | (gi_at_next; refine wpListIn_mnext rfl _ rfl rfl hr ?_ ?_)
      | fail)
    · intro hall
      gi_wp2
      go_end0
      exact ⟨⟨_, rfl⟩, .inl ⟨seen, HRg.out.perm hall, C, hj, HM.out.mono fun x _ h => .inl h, fun x hx => ⟨(HCx.out x hx).1, (HCx.out x hx).2.imp id (fun h => by omega)⟩⟩⟩
    · intro j hjL w2 hns hlt hr2 hm2 hen
      have hk := keyAt_lt hjL
      have hj2 : J seen C w2 := hJ _ _ _ _ hj (hm2.agree fun x hx => ⟨(HCx.out x hx).1, fun e => by subst e; exact hrC hx⟩)
      have HM2 := Lib.hid (HM.out.trans hm2 (fun x hx => .inr (by omega)))
      have HC2 := Lib.hid (show ∀ x, C x → x < w2.heap.size ∧ (C0 x ∨ W.heap.size < x) from fun x hx => ⟨Nat.lt_of_lt_of_le (HCx.out x hx).1 hm2.size, (HCx.out x hx).2⟩)
      obtain ⟨fn, tmps, assign, body, hy, hR⟩ := HY.out seen j ⟨hr2.nd, hr2.lt⟩ C w2 hj2 (HM2.out.mono fun x _ h => .inl h) (fun x hx => ⟨(HC2.out x hx).1, (HC2.out x hx).2.imp id (fun h => by omega)⟩)
      simp only [keysU, hk] at hy
      have HR2 := Lib.hid hr2
      have HOk := Lib.hid (show (keysU L b Bt).Ok (seen ++ [j]) from ⟨hr2.nd, hr2.lt⟩)
      have HSn := Lib.hid hr.seenN
      have hw2 : W.heap.size < w2.heap.size := hp_lt hr2.it
      clear hr hr2 hj2 hm2 hns hk hj
      gi_wp2
      refine ⟨rfl, (hR _).mono ?_⟩
      rintro e W3 (⟨rfl, C', hJ3, hm3, hb3⟩ | ⟨rfl, C', hJ3, hm3, hb3⟩)
      all_goals
        have M3 := HM2.out.trans hm3 (fun x hx => (HC2.out x hx).2.imp id (fun h => by omega))
        have B3 : ∀ x, C' x → x < W3.heap.size ∧ (C0 x ∨ W.heap.size < x) := fun x hx => ⟨(hb3 x hx).1, (hb3 x hx).2.elim (fun h => (HC2.out x h).2) (fun h => .inr (by omega))⟩
      · have hr3 := HR2.out.mod hm3 hbC hrC
        gi_wp2
        go_roundw
        case rel => exact ⟨seen ++ [j], C', hr3, hJ3, M3, B3⟩
        case measure =>
          rw [hr3.seenN, HSn.out, List.length_append]
          simp
          omega
      · gi_wp2
        refine bodyPost_ret (results_none rfl _ _ _) rfl ?_
        exact ⟨⟨_, rfl⟩, .inr ⟨seen, j, HOk.out, C', hJ3, M3.mono fun x _ h => .inl h, fun x hx => ⟨(B3 x hx).1, (B3 x hx).2.imp id (fun h => by omega)⟩⟩⟩
theorem mkeys_any (b : Nat) (w : World) : Calls Tryz.prog 35 #[.map (some b)] w fun e w' => e = .returned (.func (.func 58) #[] #[.pointer (some ⟨w.heap.size, 0, none⟩)]) ∧ w.alloc (.cells #[.map (some b)] 45) = w' := by
  go_enter Tryz.func35, Tryz.ntmps35
  go_wp2
  go_ret
  exact ⟨rfl, rfl⟩
/-- What is collected. -/
def KeysEnd {α : Type} (i : ItU α) (key : α → Int) (w : World) (e : Ending) (w' : World) : Prop := ∃ v p, e = .returned v ∧ i.Fin p ∧ OwnS w.heap.size 30 1 csK w' v (p.map key) ∧ (p = [] → v = .slice none 0 0) ∧ Mod i.E w w'
/-- Between two rounds of AppendSeq: what has come, in an own slice. -/
def apI {α : Type} (key : α → Int) (Bs : Nat) : WordU α := fun p C W => ∃ v, W.heap[Bs]? = some (.cells #[v] 87 (0, 0)) ∧ OwnS (Bs + 1) 30 1 csK W v (p.map key) ∧ (p = [] → v = .slice none 0 0) ∧ C = fun b => b = Bs ∨ v.ownBlock = some b
def apX {α : Type} : Code → WordU α := fun _ _ _ _ => False
def apA {α : Type} (key : α → Int) (Bs : Nat) (T enc : Array Value) (a' : Act) : WordU α := fun p C W => ∃ v0, enc = #[v0] ∧ a' = { tmps := (T.setIfInBounds 7 v0).setIfInBounds 5 v0, defers := [] } ∧ apI key Bs p C W
theorem apI_stab {α : Type} (key : α → Int) (Bs : Nat) : StabU (apI key Bs) := by
  rintro p C W W' ⟨v, h1, h2, h3, rfl⟩ hA
  exact ⟨v, hp_agree h1 hA (.inl rfl), h2.keep (hA.mono fun b hb => .inr hb), h3, rfl⟩
set_option maxRecDepth 100000 in
set_option maxHeartbeats 2000000 in
theorem appseq_any {α : Type} (gf : Nat) (lb : Array Value) (i : ItU α) (key : α → Int) (w : World) (henc : ∀ x, i.enc x = #[kvK (key x)]) (hlen : ∀ p, i.Ok p → p.length ≤ 1000000) (hdis : ∀ b, i.E b → ¬ i.D b)
    (eg : ∀ args w, (callFunc gf args).run Tryz.prog w = .ok (.enter gf args) w) (it : IterU Tryz.prog gf lb i w) (hD : ∀ b, i.D b ∨ i.E b → b < w.heap.size) :
    CallsIn Fence.wide 0 Tryz.prog 80 #[.slice none 0 0, .func (.func gf) #[] lb] w (KeysEnd i key w) := by
  have HD := Lib.hid hD
  have HIt := Lib.hid it
  have HLen := Lib.hid hlen
  have HEn := Lib.hid henc
  clear hD it hlen henc
  refine (callsIn_of_wp_marks (n := 0) (F := Fence.wide) Tryz.func80 rfl trivial ?_ rfl)
  simp only [Tryz.ntmps80, List.size_toArray, List.length_cons, List.length_nil, Nat.reduceAdd, Nat.reduceSub, Array.replicate_succ, Array.replicate_zero, List.push_toArray, List.append_toArray, List.nil_append, List.cons_append]
  gi_wp2
  obtain ⟨W4, hW4⟩ : ∃ W4, W4 = w.alloc (.cells #[.slice none 0 0] 87) := ⟨_, rfl⟩
  have hsz : W4.heap.size = w.heap.size + 1 := by subst hW4; simp
  have hz4 : W4.heap[w.heap.size]? = some (.cells #[.slice none 0 0] 87 (0, 0)) := by subst hW4; (repeat' (first | exact hp_new _ _ | exact hp_at _ _ (by simp; done) | refine hp_alloc ?_ _ | refine hp_drew ?_ | refine hp_drewN ?_ _ | apply hp_set | refine hp_far ?_ (by first | (simp; omega) | (simp; done)) _))
  have hm4 : ∀ C, Mod C w W4 := fun C => by subst hW4; (repeat' (first | exact Mod.refl _ _ | assumption | refine Mod.alloc ?_ _ | refine Mod.drew ?_ | refine Mod.drewN ?_ _ | refine Mod.setCell ?_ (by first | exact Or.inl rfl | (right; simp; done) | (right; simp; omega) | (left; simp; done)) _))
  rw [← hW4]
  clear hW4
  have HM4 := Lib.hid hm4
  refine wp_rangeU (gf := gf) (lb := lb) rfl eg (fun x => by rw [HEn.out]; rfl) hdis (fun l J Jx C0 W hA hE hC hJ hJx hY h0 => HIt.out l J Jx C0 W (((hm4 (fun _ => False)).agree fun b hb => ⟨HD.out b (.inl hb), id⟩).trans hA) hE hC hJ hJx hY h0)
    (fun b hb => by have := HD.out b hb; omega) (apI key w.heap.size) apX (apA key w.heap.size) (apI_stab _ _) (fun c p C X Y h hA => h)
    (fun T enc a' p C X Y ⟨v0, h0, h1, h2⟩ hA => ⟨v0, h0, h1, apI_stab _ _ _ _ _ _ h2 hA⟩)
    (fun b => b = w.heap.size) (fun b hb => by subst hb; exact ⟨by omega, fun hd => by have := HD.out _ (.inl hd); omega, fun hd => by have := HD.out _ (.inr hd); omega⟩)
    ⟨_, hz4, OwnS.nil _ _ _ _ _, fun _ => rfl, by funext b; simp [Value.ownBlock]⟩ ?assign ?body ?done (fun _ _ _ _ _ h => h.elim)
  case assign =>
    rintro l' p x hok C W' hI hm' hb'
    rw [HEn.out]
    have H1 := Lib.hid hI
    clear hI
    gi_wp2
    exact ⟨C, ⟨_, rfl, rfl, H1.out⟩, Mod.refl _ _, fun b hb => ⟨(hb' b hb).1, .inl hb⟩⟩
  case body =>
    rintro l' p x hok C a' W' ⟨v0, he, rfl, v, hb1, hown, hnil, rfl⟩ hm' hb' - - -
    rw [HEn.out] at he
    have he2 : v0 = kvK (key x) := by simpa using he.symm
    subst he2
    clear he
    have hpl : p.length + 1 ≤ 1000000 := by have := HLen.out _ hok; simpa using this
    obtain ⟨A, c, rfl, -, hfr, -⟩ := hown.rd csK_len
    obtain ⟨xs, hxs⟩ : ∃ xs, xs = p.map key := ⟨_, rfl⟩
    obtain ⟨y, hy⟩ : ∃ y, y = key x := ⟨_, rfl⟩
    have hxy : xs ++ [y] = (p ++ [x]).map key := by rw [hxs, hy, List.map_append]; rfl
    rw [← hxs] at hb1 hown hfr hb'
    rw [← hy]
    have hxl : xs.length + 1 ≤ 1000000 := by rw [hxs, List.length_map]; exact hpl
    rw [← hxs]
    obtain ⟨k, hk⟩ : ∃ k, k = xs.length := ⟨_, rfl⟩
    rw [← hk] at hb1 hown hfr hb' hxl
    rw [← hk]
    have hne : ∀ b, (Value.slice A k c).ownBlock = some b → b ≠ w.heap.size := fun b hb => by have := (hfr b hb).1; omega
    have cz := hp_cell hb1 0
    have fz := hp_free hb1 0
    have hbz := hp_lt hb1
    have H1 := Lib.hid hb1
    have HXy := Lib.hid hxy
    have HK := Lib.hid hk
    have HX := Lib.hid hxs
    have HO := Lib.hid hown
    have HFr := Lib.hid hfr
    have HNe := Lib.hid hne
    have HMW := Lib.hid (show w.heap.size + 1 ≤ W'.heap.size by have := hm'.size; omega)
    have HL1 := Lib.hid (show (xs ++ [y]).length = k + 1 by simp [hk])
    clear hxs hy hxy hk hb1 hown hfr hne hm' hpl hnil hb'
    unfold kvK
    gi_wp2_with (gi_at_builtin
                 refine wpListIn_app (base := w.heap.size + 1) (xs := xs) (ys := [y]) (D := fun b => b = W'.heap.size) rfl (.tmp 8) (.tmp 10) rfl keys_t csK_len csK_one rfl (HO.out.keep (Agree.below ((Below.refl _ _).alloc (Nat.le_refl _) _) fun b h => (HFr.out b h).2)) 1 rfl rfl (Rd.one (hp_new _ _) rfl) ?_ ?_ ?_ ?_
                 · rw [← HK.out]; simp [maxLen]; omega
                 · rw [← HK.out]; simp; omega
                 · have := HMW.out; simp; omega
                 intro v' w2 hown2 hm2 hat2
                 obtain ⟨A2, c2, hv2, -, hfr2, hml2⟩ := OwnS.rd hown2 csK_len
                 rw [HL1.out] at hv2
                 subst hv2
                 have h12 := hp_mod (hp_alloc H1.out _) hm2 (fun h => HNe.out _ h rfl)
                 have cz2 := hp_cell h12 0
                 have fz2 := hp_free h12 0
                 have H12 := Lib.hid h12
                 have HM2 := Lib.hid hm2
                 have HO2 := Lib.hid hown2
                 have HA2 := Lib.hid hat2
                 clear h12 hm2 hown2 hat2)
    have hs2 := HM2.out.size
    simp at hs2
    have hmw := HMW.out
    refine ⟨fun b => b = w.heap.size ∨ (Value.slice A2 (k + 1) c2).ownBlock = some b, ⟨_, hp_eq (hp_set H12.out 0 _) rfl, ?_, fun e => by simp at e, rfl⟩, ?_, ?_⟩
    · rw [← HXy.out]
      exact HO2.out.keep ⟨rfl, rfl, rfl, by simp [World.setCell], fun b hb => Below.heap_setCell _ _ _ _ (by have := (hfr2 b hb).1; simp; omega)⟩
    · refine Mod.setCell (((Mod.refl _ W').alloc _).trans HM2.out (fun b hb => .inl (.inr ?_))) (.inl (.inl rfl)) _
      exact hb
    · rintro b (rfl | hb)
      · exact ⟨by simp [World.setCell]; omega, .inl (.inl rfl)⟩
      · refine ⟨by have := (hfr2 b hb).2; simpa [World.setCell] using this, ?_⟩
        rcases HA2.out with h | h
        · left; right; exact h.symm.trans hb
        · have hb3 := h.symm.trans hb
          injection hb3 with hb3
          right
          rw [← hb3]; simp
  case done =>
    rintro W' C' p hfin ⟨v, hb1, hown, hnil, rfl⟩ hm' hb' hK hn'
    rw [hsz] at hK
    have c0 := hp_cell hb1 0
    simp only [List.getElem?_toArray, List.getElem?_cons_zero] at c0
    have HO := Lib.hid hown
    have HNil := Lib.hid hnil
    have HM' := Lib.hid hm'
    have HFin := Lib.hid hfin
    clear hm' hown hnil hb1 hfin
    gi_wp2
    refine endM1 rfl hK (results_tmp rfl _ _ _) ⟨v, p, rfl, HFin.out, ?_, HNil.out, ?_⟩
    · refine (HO.out.less (by omega)).mod ((Mod.refl (fun b => b = w.heap.size + 1) W').putObj (.inl rfl) _) (fun b hb e => ?_)
      rw [hsz] at hn'
      exact hn' (.inr (e ▸ hb))
    · refine Mod.putObj (l := w.heap.size + 1) ((HM4.out i.E).trans HM'.out (fun b hb => ?_)) (.inr (by omega)) _
      rcases hb with h | h
      · right; omega
      · exact .inl h
set_option maxHeartbeats 1000000 in
theorem collect_any {α : Type} (gf : Nat) (lb : Array Value) (i : ItU α) (key : α → Int) (w : World) (henc : ∀ x, i.enc x = #[kvK (key x)]) (hlen : ∀ p, i.Ok p → p.length ≤ 1000000) (hdis : ∀ b, i.E b → ¬ i.D b)
    (eg : ∀ args w, (callFunc gf args).run Tryz.prog w = .ok (.enter gf args) w) (it : IterU Tryz.prog gf lb i w) (hD : ∀ b, i.D b ∨ i.E b → b < w.heap.size) :
    Calls Tryz.prog 56 #[.func (.func gf) #[] lb] w (KeysEnd i key w) := by
  have H := Lib.hid (appseq_any gf lb i key w henc hlen hdis eg it hD)
  clear henc hlen hdis it hD
  refine callsIn_wide.1 (callsIn_of_wp (n := 0) (F := Fence.wide) Tryz.func56 rfl trivial ?_ rfl)
  simp only [Tryz.ntmps56, List.size_toArray, List.length_cons, List.length_nil, Nat.reduceAdd, Nat.reduceSub, Array.replicate_succ, Array.replicate_zero, List.push_toArray, List.append_toArray, List.nil_append, List.cons_append]
  gi_wp2_with (first
    | ((refine ⟨trivial, rfl, ?_⟩; gi_at_call 80); refine H.out.mono ?_; rintro e w' ⟨v, p, rfl, h1, h2, h3, h4⟩)
    | fail)
  go_ret
  exact ⟨v, p, rfl, h1, h2, h3, h4⟩
/-- What is sorted out of an iterator. -/
def SortedEnd {α : Type} (i : ItU α) (key : α → Int) (w : World) (e : Ending) (w' : World) : Prop := ∃ v p ys, e = .returned v ∧ i.Fin p ∧ OwnS w.heap.size 30 1 csK w' v ys ∧ ys.Perm (p.map key) ∧ ys.Pairwise (· ≤ ·) ∧ Mod i.E w w'
set_option maxHeartbeats 1000000 in
theorem sorted_any {α : Type} (gf : Nat) (lb : Array Value) (i : ItU α) (key : α → Int) (w : World) (henc : ∀ x, i.enc x = #[kvK (key x)]) (hlen : ∀ p, i.Ok p → p.length ≤ 1000000) (hfin : ∀ p, i.Fin p → p.length ≤ 1000000) (hdis : ∀ b, i.E b → ¬ i.D b)
    (eg : ∀ args w, (callFunc gf args).run Tryz.prog w = .ok (.enter gf args) w) (it : IterU Tryz.prog gf lb i w) (hD : ∀ b, i.D b ∨ i.E b → b < w.heap.size) :
    Calls Tryz.prog 34 #[.func (.func gf) #[] lb] w (SortedEnd i key w) := by
  have H := Lib.hid (collect_any gf lb i key w henc hlen hdis eg it hD)
  have HFl := Lib.hid hfin
  clear henc hlen hdis it hD hfin
  go_enter Tryz.func34, Tryz.ntmps34
  go_wp2_with (first
    | (go_at_call 56
       (with_reducible refine H.out.mono ?_)
       rintro e w1 ⟨v, p, rfl, h1, h2, h3, h4⟩
       obtain ⟨A, c, rfl, -, hfr, -⟩ := h2.rd csK_len
       have hs := ssort_any w.heap.size _ (p.map key) w1 h2 (by have := HFl.out p h1; rw [List.length_map]; omega) (fun A' n' c' e hn => by
         injection e with e1 e2 e3
         rw [← e2, List.length_map] at hn
         exact h3 (List.eq_nil_of_length_eq_zero hn))
       obtain ⟨n, hn⟩ : ∃ n, n = (p.map key).length := ⟨_, rfl⟩
       rw [← hn] at hs hfr
       rw [← hn]
       have HS := Lib.hid hs
       have HF := Lib.hid h1
       have HM := Lib.hid h4
       have HFr := Lib.hid hfr
       clear hs h1 h2 h3 h4 hn hfr)
    | (go_at_call 57
       (with_reducible refine HS.out.mono ?_)
       rintro e w2 ⟨rfl, ys, hown, hp, hso, hm⟩
       have HO := Lib.hid hown
       have HP := Lib.hid hp
       have HSo := Lib.hid hso
       have HM2 := Lib.hid hm
       clear hown hp hso hm)
    | fail)
  go_ret
  exact ⟨_, p, ys, rfl, HF.out, HO.out, HP.out, HSo.out, HM.out.trans HM2.out (fun b hb => .inr (HFr.out b hb).1)⟩
theorem range_keys (L : List (Int × Value)) : (List.range L.length).map (keyAt L) = L.map Prod.fst := by
  apply List.ext_getElem
  · simp
  · intro j h1 h2
    simp only [List.length_map, List.length_range] at h1
    rw [List.getElem_map, List.getElem_range, keyAt_lt h1, List.getElem_map]
/-- A map's keys, sorted: 'slices.Sorted(maps.Keys(m))', the iterator at hand. -/
theorem sortedKeys_any (Bt b : Nat) (L : List (Int × Value)) (w : World) (hBt : w.heap[Bt]? = some (.cells #[.map (some b)] 45 (0, 0))) (hb : w.heap[b]? = some (mapO kvK L)) (hl : L.length ≤ 1000000) :
    Calls Tryz.prog 34 #[.func (.func 58) #[] #[.pointer (some ⟨Bt, 0, none⟩)]] w fun e w' => ∃ v ys, e = .returned v ∧ OwnS w.heap.size 30 1 csK w' v ys ∧ ys.Perm (L.map Prod.fst) ∧ ys.Pairwise (· ≤ ·) ∧ Mod (fun _ => False) w w' := by
  refine (sorted_any _ _ (keysU L b Bt) (keyAt L) w (fun x => rfl) (fun p hp => ?_) (fun p hp => ?_) (fun b h => h.elim) (enters_of Tryz.func58 (by kernel_rfl) rfl) (keys1_iter Bt b L w (by have := hp_cell hBt 0; simpa using this) hb) (fun x hx => ?_)).mono ?_
  · exact Nat.le_trans (nodup_full hp.1 hp.2) hl
  · have h2 : p.Perm (List.range L.length) := hp
    have := h2.length_eq
    simp at this; omega
  · rcases hx with (rfl | rfl) | h
    · exact hp_lt hb
    · exact hp_lt hBt
    · exact h.elim
  · rintro e w' ⟨v, p, ys, rfl, hf, ho, hp, hs, hm⟩
    have hf2 : p.Perm (List.range L.length) := hf
    exact ⟨v, ys, rfl, ho, by rw [← range_keys]; exact hp.trans (hf2.map _), hs, hm⟩
end Go.Proofs.YtmalclclopnlnaaGreat
/-
  The package clients: a copy; all clients, by rising numbers.
-/
namespace Go.Proofs.YtmalclclopnlnaaGreat
open Go.RowKit Go.Shelf
attribute [local go_sem] Oper.semAt_some

theorem clone_run (m : Nat) (L : List (Int × Value)) (w : World) (h : w.heap[m]? = some (mapO kvU L)) : Calls Tryz.prog 25 #[.map (some m)] w fun e w' => e = .returned (.map (some w.heap.size)) ∧ w.alloc (mapO kvU L) = w' :=
  (AnyW.maps_Clone Tryz.cloneRg m _ _ w h).mono fun e w' h => ⟨h.1, h.2.symm⟩
set_option maxRecDepth 100000 in
theorem tcopy_any (F : Nat → Prop) (p m T : Nat) (L : List Told) (ms : List TC) (w : World) (h : TabAt F p m T w L ms) :
    Calls Tryz.prog 10 #[.pointer (some ⟨p, 0, none⟩)] w fun e w' => e = .returned (.pointer (some ⟨w.heap.size + 1, 0, none⟩)) ∧ TabAt F (w.heap.size + 1) w.heap.size 47 w' L ms ∧ w'.heap.size = w.heap.size + 2 ∧ Mod (fun _ => False) w w' := by
  have x0 : w.cell? ⟨p, 0, none⟩ = some (.map (some m)) := by rw [hp_cell h.ptr]; rfl
  have HTh := Lib.hid (tthere_yes p m w x0)
  have HCl := Lib.hid (clone_run m _ w h.map)
  have HH := Lib.hid h
  clear h
  go_enter Tryz.func10, Tryz.ntmps10
  go_wp2_with (first
    | (go_at_call 24
       (with_reducible refine HTh.out.mono ?_)
       rintro e w2 ⟨rfl, rfl⟩)
    | (go_at_call 25
       (with_reducible refine HCl.out.mono ?_)
       rintro e w2 ⟨rfl, rfl⟩)
    | fail)
  go_ret
  have h := HH.out
  have hpl := h.plt
  have hml := h.mlt
  exact ⟨by simp, ⟨hp_at _ _ (by simp), hp_alloc (hp_new _ _) _, h.perm, h.tab, fun t ht => ⟨(h.rd t ht).1.mod (C := fun _ => False) (by (repeat' (first | exact Mod.refl _ _ | assumption | refine Mod.alloc ?_ _ | refine Mod.drew ?_ | refine Mod.drewN ?_ _ | refine Mod.setCell ?_ (by first | exact Or.inl rfl | (right; simp; done) | (right; simp; omega) | (left; simp; done)) _))) fun b hb => ⟨(h.off b hb).1, id⟩, (h.rd t ht).2⟩, by omega, fun b hb => by have := (h.off b hb).1; simp; omega⟩, by simp, by (repeat' (first | exact Mod.refl _ _ | assumption | refine Mod.alloc ?_ _ | refine Mod.drew ?_ | refine Mod.drewN ?_ _ | refine Mod.setCell ?_ (by first | exact Or.inl rfl | (right; simp; done) | (right; simp; omega) | (left; simp; done)) _))⟩
theorem tcopy_no (v : Value) (w : World) (h : v = .pointer none ∨ ∃ p, v = .pointer (some ⟨p, 0, none⟩) ∧ w.cell? ⟨p, 0, none⟩ = some (.map none)) : Calls Tryz.prog 10 #[v] w fun e w' => e = .returned (.pointer none) ∧ w = w' := by
  have HTh := Lib.hid (tthere_no v w h)
  clear h
  go_enter Tryz.func10, Tryz.ntmps10
  go_wp2_with (first
    | (go_at_call 24
       (with_reducible refine HTh.out.mono ?_)
       rintro e w2 ⟨rfl, rfl⟩)
    | fail)
  go_ret
  exact ⟨rfl, rfl⟩
set_option maxRecDepth 100000 in
/-- What All hands out: a function over the box of a table of its own. -/
theorem ttall_any (F : Nat → Prop) (p m T : Nat) (L : List Told) (ms : List TC) (w : World) (h : TabAt F p m T w L ms) :
    Calls Tryz.prog 16 #[.pointer (some ⟨p, 0, none⟩)] w fun e w' => e = .returned (.func (.func 33) #[] #[.pointer (some ⟨w.heap.size + 2, 0, none⟩)]) ∧ w'.cell? ⟨w.heap.size + 2, 0, none⟩ = some (.pointer (some ⟨w.heap.size + 1, 0, none⟩)) ∧ TabAt F (w.heap.size + 1) w.heap.size 47 w' L ms ∧ w.heap.size + 2 < w'.heap.size ∧ Mod (fun _ => False) w w' := by
  have HCp := Lib.hid (tcopy_any F p m T L ms w h)
  clear h
  go_enter Tryz.func16, Tryz.ntmps16
  go_wp2_with (first
    | (go_at_call 10
       (with_reducible refine HCp.out.mono ?_)
       rintro e w2 ⟨rfl, hat, hsz, hm2⟩
       have HAT := Lib.hid hat
       have HM := Lib.hid hm2
       clear hat hm2)
    | fail)
  go_ret
  exact ⟨by rw [← hsz]; rfl, by rw [← hsz, hp_cell (hp_new _ _)]; rfl, HAT.out.mod (C := fun _ => False) (by (repeat' (first | exact Mod.refl _ _ | assumption | refine Mod.alloc ?_ _ | refine Mod.drew ?_ | refine Mod.drewN ?_ _ | refine Mod.setCell ?_ (by first | exact Or.inl rfl | (right; simp; done) | (right; simp; omega) | (left; simp; done)) _))) id id fun _ _ => id, by simp; omega, HM.out.alloc _⟩
/-- An empty one's. -/
theorem ttall_no (v : Value) (w : World) (h : v = .pointer none ∨ ∃ p, v = .pointer (some ⟨p, 0, none⟩) ∧ w.cell? ⟨p, 0, none⟩ = some (.map none)) :
    Calls Tryz.prog 16 #[v] w fun e w' => e = .returned (.func (.func 33) #[] #[.pointer (some ⟨w.heap.size, 0, none⟩)]) ∧ w'.cell? ⟨w.heap.size, 0, none⟩ = some (.pointer none) ∧ w.heap.size < w'.heap.size ∧ Mod (fun _ => False) w w' := by
  have HCp := Lib.hid (tcopy_no v w h)
  clear h
  go_enter Tryz.func16, Tryz.ntmps16
  go_wp2_with (first
    | (go_at_call 10
       (with_reducible refine HCp.out.mono ?_)
       rintro e w2 ⟨rfl, rfl⟩)
    | fail)
  go_ret
  exact ⟨rfl, by rw [hp_cell (hp_new _ _)]; rfl, by simp, by (repeat' (first | exact Mod.refl _ _ | assumption | refine Mod.alloc ?_ _ | refine Mod.drew ?_ | refine Mod.drewN ?_ _ | refine Mod.setCell ?_ (by first | exact Or.inl rfl | (right; simp; done) | (right; simp; omega) | (left; simp; done)) _))⟩
end Go.Proofs.YtmalclclopnlnaaGreat
