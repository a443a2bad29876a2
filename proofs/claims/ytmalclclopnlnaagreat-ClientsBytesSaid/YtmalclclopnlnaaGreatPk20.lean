/-
  Texts of this claim, one behind the other: ResK, ResL.
-/
import Derived.Test.YtmalclclopnlnaaGreatPk12
import Derived.Test.YtmalclclopnlnaaGreatPk15
import Derived.Test.YtmalclclopnlnaaGreatPk19
/-
  The package message: a result's bytes; one entry of a result is read.
-/
namespace Go.Proofs.YtmalclclopnlnaaGreat
open Go.RowKit Go.Shelf
attribute [local go_sem] Oper.semAt_some

/-- What a result's bytes are, or that it may not be. -/
def ResBEnds (x : Res) (w : World) (e : Ending) (w' : World) : Prop :=
  (if mayR x = true then ∃ A c, e = .returned (.tuple #[.slice A (resV x).length c, .int .i64 0]) ∧ OwnS w.heap.size 5 1 csU w' (.slice A (resV x).length c) (resV x) else e = .returned (.tuple #[.slice none 0 0, .int .i64 2])) ∧ Mod (fun _ => False) w w'
set_option maxRecDepth 100000 in
set_option maxHeartbeats 2000000 in
theorem mbytes_any (r : RC) (w : World) (h : r.Ok (fun b => b < w.heap.size) w) (hfit : r.Fit) :
    Calls Tryz.prog 26 #[r.val] w (ResBEnds r.res w) := by
  obtain ⟨n, hn⟩ : ∃ n, n = r.es.length := ⟨_, rfl⟩
  obtain ⟨m, hm⟩ : ∃ m, m = r.cur.length := ⟨_, rfl⟩
  have hval : r.val = .agg #[.int .i64 r.code, .bool r.yes, .slice r.A n r.cA, .slice r.B m r.cB] := by rw [hn, hm]; rfl
  have hMy := fun X (hX : Mod (fun _ => False) w X) => mmay_any r X ((h.mod hX fun b hb => ⟨hb, id⟩).mono fun b hb => Nat.lt_of_lt_of_le hb hX.size) hfit
  have hPk : mayR r.res = true → ∀ X, Mod (fun _ => False) w X → Calls Tryz.prog 47 #[r.val] X (PackEnds r.res X) := fun hr X hX => by
    obtain ⟨h1, h2, h3, h4, h5, h6⟩ := mayR_fits hr
    have h1 : 0 ≤ r.code := h1
    have h2 : r.code ≤ 14 := h2
    refine mpack_any r X ((h.mod hX fun b hb => ⟨hb, id⟩).mono fun b hb => Nat.lt_of_lt_of_le hb hX.size) r.code.toNat (by omega) (by omega) (fun e he => h4 _ (List.mem_map_of_mem he)) ?_ h5
    have : (r.es.map EnC.ent).length ≤ 1000 := h3
    rwa [List.length_map] at this
  have hle : mayR r.res = true → (esV r.res.es).length ≤ 4194304 := fun hr => (mayR_fits hr).2.2.2.2.2
  unfold ResBEnds
  obtain ⟨z, hz⟩ : ∃ z, z = mayR r.res := ⟨_, rfl⟩
  rw [← hz] at hMy hPk hle ⊢
  obtain ⟨x, hx⟩ : ∃ x, x = r.res := ⟨_, rfl⟩
  rw [← hx] at hPk hle ⊢
  rw [hval] at hMy hPk ⊢
  obtain ⟨k, hk⟩ : ∃ k, k = r.code := ⟨_, rfl⟩
  obtain ⟨y, hy⟩ : ∃ y, y = r.yes := ⟨_, rfl⟩
  obtain ⟨A, hA⟩ : ∃ A, A = r.A := ⟨_, rfl⟩
  obtain ⟨B, hB⟩ : ∃ B, B = r.B := ⟨_, rfl⟩
  obtain ⟨cA, hcA⟩ : ∃ c, c = r.cA := ⟨_, rfl⟩
  obtain ⟨cB, hcB⟩ : ∃ c, c = r.cB := ⟨_, rfl⟩
  rw [← hk, ← hy, ← hA, ← hB, ← hcA, ← hcB] at hMy hPk ⊢
  have HMy := Lib.hid hMy
  have HPk := Lib.hid hPk
  have HLe := Lib.hid hle
  have HB1 := Lib.hid (show (w.alloc (.cells #[.int .i64 k, .bool y, .slice A n cA, .slice B m cB] 37)).heap[w.heap.size]? = some (.cells #[.int .i64 k, .bool y, .slice A n cA, .slice B m cB] 37 (0, 0)) from hp_new _ _)
  clear hMy hPk hle hz hx hk hy hA hB hcA hcB hval hn hm h hfit
  cases z
  · simp only [Bool.false_eq_true, if_false]
    go_enter Tryz.func26, Tryz.ntmps26
    go_wp2_with (first
      | (go_at_call 46
         (with_reducible refine (HMy.out _ (by (repeat' (first | exact Mod.refl _ _ | assumption | refine Mod.alloc ?_ _ | refine Mod.drew ?_ | refine Mod.drewN ?_ _ | refine Mod.setCell ?_ (by first | exact Or.inl rfl | (right; simp; done) | (right; simp; omega) | (left; simp; done)) _)))).mono ?_)
         rintro e w1 ⟨rfl, hm1⟩
         have HM1 := Lib.hid (((Mod.refl (fun _ => False) w).alloc _).trans' hm1)
         clear hm1)
      | fail)
    refine bodyPost_ret (v := .tuple #[.slice none 0 0, .int .i64 2]) (by simp [results, Tryz.results26, go_sem]) rfl ⟨rfl, HM1.out⟩
  · simp only [if_true]
    have HPk2 := Lib.hid (HPk.out rfl)
    have HLe2 := Lib.hid (HLe.out rfl)
    clear HPk HLe
    go_enter Tryz.func26, Tryz.ntmps26
    go_wp2_with (first
      | (go_at_call 46
         (with_reducible refine (HMy.out _ (by (repeat' (first | exact Mod.refl _ _ | assumption | refine Mod.alloc ?_ _ | refine Mod.drew ?_ | refine Mod.drewN ?_ _ | refine Mod.setCell ?_ (by first | exact Or.inl rfl | (right; simp; done) | (right; simp; omega) | (left; simp; done)) _)))).mono ?_)
         rintro e w1 ⟨rfl, hm1⟩
         have hb1 := hp_mod HB1.out hm1 id
         have x0 : w1.cell? ⟨w.heap.size, 0, none⟩ = some (.int .i64 k) := hp_cell hb1 0
         have x1 : w1.cell? ⟨w.heap.size, 0 + 1, none⟩ = some (.bool y) := hp_cell hb1 1
         have x1' : w1.cell? ⟨w.heap.size, 1, none⟩ = some (.bool y) := hp_cell hb1 1
         have x2 : w1.cell? ⟨w.heap.size, 0 + 2, none⟩ = some (.slice A n cA) := hp_cell hb1 2
         have x2' : w1.cell? ⟨w.heap.size, 2, none⟩ = some (.slice A n cA) := hp_cell hb1 2
         have x3 : w1.cell? ⟨w.heap.size, 0 + 3, none⟩ = some (.slice B m cB) := hp_cell hb1 3
         have x3' : w1.cell? ⟨w.heap.size, 3, none⟩ = some (.slice B m cB) := hp_cell hb1 3
         have HM1 := Lib.hid (((Mod.refl (fun _ => False) w).alloc _).trans' hm1)
         clear hm1 hb1)
      | (go_at_call 47
         (with_reducible refine (HPk2.out _ HM1.out).mono ?_)
         rintro e w2 ⟨he, hm2⟩
         rw [if_pos HLe2.out] at he
         obtain ⟨A5, c5, he, ho⟩ := he
         obtain ⟨j, hj⟩ : ∃ j, j = (resV x).length := ⟨_, rfl⟩
         rw [← hj] at he ho
         subst he
         have HJ := Lib.hid hj
         have HO := Lib.hid ho
         have HM2 := Lib.hid (HM1.out.trans' hm2)
         clear hm2 ho hj)
      | fail)
    refine bodyPost_ret (v := .tuple #[.slice A5 j c5, .int .i64 0]) (by simp [results, Tryz.results26, go_sem]) rfl ⟨⟨A5, c5, ?_, ?_⟩, HM2.out⟩
    · rw [HJ.out]
    · rw [← HJ.out]; exact HO.out.less HM1.out.size
/-! ### Reading -/
theorem ents_t : SliceT Tryz.prog 34 68 2 40 := SliceT.mk' (z := .agg #[.string ⟨#[]⟩, .slice none 0 0]) Tryz.underlying34 (by kernel_rfl) rfl (by decide)
/-- Entries as they are read: in the result's block bX. -/
def JE (bX : Nat) (code : Int) (y : Bool) (l : List Ent) (C : Nat → Prop) (W : World) : Prop :=
  ∃ (v : Value) (xs : List EnC) (D : Nat → Prop), W.heap[bX]? = some (.cells #[.int .i64 code, .bool y, v, .slice none 0 0] 37 (0, 0)) ∧ OwnS (bX + 1) 68 2 EnC.cs W v xs ∧ xs.map EnC.ent = l ∧ (∀ x ∈ xs, x.Ok D W ∧ x.ats.length ≤ 1099511627776) ∧ (∀ b, D b → bX < b ∧ b < W.heap.size ∧ v.ownBlock ≠ some b) ∧ C = fun b => b = bX ∨ v.ownBlock = some b ∨ D b
theorem JE_stab (bX : Nat) (code : Int) (y : Bool) (l : List Ent) (C : Nat → Prop) (W W' : World) (h : JE bX code y l C W) (hA : Agree C W W') : JE bX code y l C W' := by
  obtain ⟨v, xs, D, h1, h2, h3, h4, h5, rfl⟩ := h
  exact ⟨v, xs, D, hp_agree h1 hA (.inl rfl), h2.keep (hA.mono fun b hb => .inr (.inl hb)), h3, fun x hx => ⟨(h4 x hx).1.keep (hA.mono fun b hb => .inr (.inr hb)), (h4 x hx).2⟩, fun b hb => ⟨(h5 b hb).1, Nat.lt_of_lt_of_le (h5 b hb).2.1 hA.size, (h5 b hb).2.2⟩, rfl⟩
def entO : Option (Bs × List At) → Ent
  | some (nm, xs) => ⟨nm, xs⟩
  | none => ⟨[], []⟩
theorem stepE_eq (l : List Ent) (s : Bs) : stepE l s = (l ++ [entO (ofE (gotV 1 s false).1)], (gotV 1 s false).2.1, (gotV 1 s false).2.2, (ofE (gotV 1 s false).1).isSome && decide (l.length + 1 ≤ 1000)) := by
  unfold stepE
  cases ofE (gotV 1 s false).1 with
  | none => rfl
  | some v => rfl
theorem stepE_len (l : List Ent) (s : Bs) : (stepE l s).2.1.length ≤ s.length := by
  rw [stepE_eq]
  exact gotV_len 1 s false
/-- What entry.Of leaves, as an entry that lies. -/
theorem OfEnds.enc {s : Bs} {w w' : World} {e : Ending} (h : OfEnds s w e w') : ∃ x : EnC, e = .returned (.tuple #[.agg #[.string ⟨x.nm.toArray⟩, .slice x.A x.ats.length x.c], .int .i64 (if (ofE s).isSome = true then 0 else 4)]) ∧ x.ent = entO (ofE s) ∧ x.Ok (fun b => w.heap.size ≤ b ∧ b < w'.heap.size) w' ∧ x.ats.length ≤ 1099511627776 := by
  obtain ⟨h, -⟩ := h
  cases ho : ofE s with
  | none =>
    rw [ho] at h
    exact ⟨⟨[], none, 0, []⟩, h, rfl, ⟨Rd.nil _ _ _ _ _, by simp, by simp [maxLen], Nat.le_refl _, fun a ha => (by cases ha)⟩, by simp⟩
  | some v =>
    obtain ⟨nm, l⟩ := v
    rw [ho] at h
    obtain ⟨A, c, he, hown⟩ := h
    obtain ⟨-, h1, h2⟩ := ofE_some ho
    obtain ⟨h3, h4, -⟩ := (mayAs_iff l).1 h2
    have hnl : nm.length ≤ 1000 := by unfold mayNm at h1; simp at h1; exact h1.1
    obtain ⟨A', c', hv, hrd, hfr, hml⟩ := OwnS.rd hown At.cs_len
    injection hv with q1 q2 q3
    subst q1 q3
    refine ⟨⟨nm, A, c, l⟩, he, rfl, ⟨hrd.mono fun b hb => hfr b hb, by show nm.length ≤ _; omega, hml, (hown.cap rfl).1, ?_⟩, by show l.length ≤ _; omega⟩
    intro a ha
    have := mayA_fits (h4 a ha)
    omega
end Go.Proofs.YtmalclclopnlnaaGreat
/-
  The package message: one entry of a result is read.
-/
namespace Go.Proofs.YtmalclclopnlnaaGreat
open Go.RowKit Go.Shelf
attribute [local go_sem] Oper.semAt_some

theorem of1_fin {bX q T : Nat} {code : Int} {y : Bool} {D DX : Nat → Prop} {W w1 w2 W3 w4 : World} {v v' : Value} {xs : List EnC} {x : EnC} {s' : Bs} {bd : Bool}
    (hC : ∀ b, b = bX ∨ v.ownBlock = some b ∨ DX b → b < W.heap.size ∧ b ≠ q ∧ ¬ D b) (hxs : ∀ z ∈ xs, z.Ok DX W ∧ z.ats.length ≤ 1099511627776) (hDX : ∀ b, DX b → bX < b ∧ b < W.heap.size ∧ v.ownBlock ≠ some b)
    (hm1 : Mod (fun b => b = q) W w1) (hm2 : Mod (fun _ => False) w1 w2) (hox : x.Ok (fun b => w1.heap.size ≤ b ∧ b < w2.heap.size) w2) (hxl : x.ats.length ≤ 1099511627776) (hm3 : Mod (fun _ => False) w2 W3) (hbe : w2.heap.size < W3.heap.size) (hm4 : Mod (fun b => v.ownBlock = some b) W3 w4)
    (hq : q < W.heap.size) (hown : OwnS (bX + 1) 68 2 EnC.cs w4 v' (xs ++ [x])) (hat : v'.ownBlock = v.ownBlock ∨ v'.ownBlock = some W3.heap.size) (hbX : w4.heap[bX]? = some (.cells #[.int .i64 code, .bool y, v, .slice none 0 0] 37 (0, 0))) (hr : RrAt D q T w1 s' bd) :
    RrAt D q T (w4.setCell ⟨bX, 2, none⟩ v') s' bd ∧ Mod (fun b => b = q ∨ (b = bX ∨ v.ownBlock = some b ∨ DX b)) W (w4.setCell ⟨bX, 2, none⟩ v') ∧ ∃ C', JE bX code y ((xs ++ [x]).map EnC.ent) C' (w4.setCell ⟨bX, 2, none⟩ v') ∧ ∀ b, C' b → b < (w4.setCell ⟨bX, 2, none⟩ v').heap.size ∧ ((b = bX ∨ v.ownBlock = some b ∨ DX b) ∨ W.heap.size ≤ b) := by
  have hm5 : Mod (fun b => b = bX) w4 (w4.setCell ⟨bX, 2, none⟩ v') := by (repeat' (first | exact Mod.refl _ _ | assumption | refine Mod.alloc ?_ _ | refine Mod.drew ?_ | refine Mod.drewN ?_ _ | refine Mod.setCell ?_ (by first | exact Or.inl rfl | (right; simp; done) | (right; simp; omega) | (left; simp; done)) _))
  have s1 := hm1.size
  have s2 := hm2.size
  have s3 := hm3.size
  have s4 := hm4.size
  have s5 := hm5.size
  have hbl := (hC bX (.inl rfl)).1
  have hvl : ∀ b, v.ownBlock = some b → b < W.heap.size ∧ b ≠ q ∧ ¬ D b := fun b hb => hC b (.inr (.inl hb))
  have hm13 : Mod (fun _ => False) w1 W3 := hm2.trans' hm3
  have hr4 : RrAt D q T w4 s' bd := (hr.keep hm13 id fun _ _ => id).keep hm4 (fun h => (hvl q h).2.1 rfl) fun b hb h => (hvl b h).2.2 hb
  have hM : Mod (fun b => b = q ∨ (b = bX ∨ v.ownBlock = some b ∨ DX b)) W (w4.setCell ⟨bX, 2, none⟩ v') := by
    exact (((hm1.trans hm13 fun _ h => h.elim).mono fun b _ h => .inl h).trans hm4 fun b hb => .inl (.inr (.inr (.inl hb)))).trans hm5 fun b hb => .inl (.inr (.inl hb))
  refine ⟨hr4.keep hm5 (fun e => (hC bX (.inl rfl)).2.1 e.symm) fun b hb e => (hC b (.inl e)).2.2 hb, hM, fun b => b = bX ∨ v'.ownBlock = some b ∨ (DX b ∨ (w1.heap.size ≤ b ∧ b < w2.heap.size)), ⟨v', xs ++ [x], fun b => DX b ∨ (w1.heap.size ≤ b ∧ b < w2.heap.size), hp_eq (hp_set hbX 2 _) rfl, hown.mod hm5 (fun b hb e => by have := (hown.fresh b hb).1; omega), rfl, ?_, ?_, rfl⟩, ?_⟩
  · intro z hz
    rcases List.mem_append.1 hz with hz | hz
    · refine ⟨(((((hxs z hz).1.mod hm1 fun b hb => ⟨(hDX b hb).2.1, (hC b (.inr (.inr hb))).2.1⟩).mod hm13 fun b hb => ⟨Nat.lt_of_lt_of_le (hDX b hb).2.1 s1, id⟩).mod hm4 fun b hb => ⟨by have := (hDX b hb).2.1; omega, (hDX b hb).2.2⟩).mod hm5 fun b hb => ⟨by have := (hDX b hb).2.1; omega, by have := (hDX b hb).1; omega⟩).mono fun b hb => .inl hb, (hxs z hz).2⟩
    · rw [List.mem_singleton] at hz
      subst hz
      exact ⟨(((hox.mod hm3 fun b hb => ⟨hb.2, id⟩).mod hm4 fun b hb => ⟨by omega, fun h => by have := (hvl b h).1; omega⟩).mod hm5 fun b hb => ⟨by omega, by omega⟩).mono fun b hb => .inr hb, hxl⟩
  · intro b hb
    rcases hb with hb | hb
    · have h1 := hDX b hb
      refine ⟨h1.1, by omega, ?_⟩
      rcases hat with e | e
      · rw [e]; exact h1.2.2
      · rw [e]; intro h; injection h with h; omega
    · refine ⟨by omega, by omega, ?_⟩
      rcases hat with e | e
      · rw [e]; intro h; have := (hvl b h).1; omega
      · rw [e]; intro h; injection h with h; omega
  · intro b hb
    rcases hb with h | h | h | h
    · exact ⟨by omega, .inl (.inl h)⟩
    · refine ⟨by have := (hown.fresh b h).2; omega, ?_⟩
      rcases hat with e | e
      · exact .inl (.inr (.inl (e ▸ h)))
      · rw [e] at h
        injection h with h
        right; omega
    · exact ⟨by have := (hDX b h).2.1; omega, .inl (.inr (.inr h))⟩
    · exact ⟨by omega, by right; omega⟩
theorem dec_len {n m : Nat} (h : m = n) : decide (((n + 1 : Nat) : Int) ≤ 1000) = decide (m + 1 ≤ 1000) := decide_eq_decide.2 (by omega)
theorem gotV_len2 (t : UInt8) (s : Bs) (bad : Bool) : (gotV t s bad).1.length ≤ s.length := by
  unfold gotV
  split
  · simp
  · rename_i h
    split at h
    · cases h
    · have := takeV_len h
      simp only
      omega
set_option maxRecDepth 100000 in
set_option maxHeartbeats 2000000 in
theorem of1_takes (bX : Nat) (code : Int) (y : Bool) : TakesR 52 #[.pointer (some ⟨bX, 0, none⟩)] stepE (JE bX code y) (fun l _ => l.length ≤ 1000) := by
  intro D q l s C W hat hsz hin hj hC
  obtain ⟨v, xs, DX, h1, hown, hl, hxs, hDX, rfl⟩ := hj
  have hqlt := hat.lt
  have hby := rbytes_any D q 135 s false 1 W hat hsz
  rw [show (((1 : UInt8).toNat : Nat) : Int) = 1 from rfl] at hby
  have hglen : (gotV 1 s false).1.length ≤ 1099511627776 := by have := gotV_len2 1 s false; omega
  obtain ⟨g, hg⟩ : ∃ g, g = gotV 1 s false := ⟨_, rfl⟩
  rw [← hg] at hby hglen
  have hst := stepE_eq l s
  rw [← hg] at hst
  obtain ⟨o, ho⟩ : ∃ o, o = ofE g.1 := ⟨_, rfl⟩
  rw [← ho] at hst
  obtain ⟨dz, hdz⟩ : ∃ d, d = decide (l.length + 1 ≤ 1000) := ⟨_, rfl⟩
  rw [← hdz] at hst
  have hof := fun A X (hA : Rd D X 1 csU A g.1) => eof_any D A g.1.length g.1 X hA hglen
  obtain ⟨m, hm⟩ : ∃ m, m = g.1.length := ⟨_, rfl⟩
  have hgot : GotEnds D q 135 g W = fun r w' => ∃ A, r = .returned (.slice A m m) ∧ Rd D w' 1 csU A g.1 ∧ RrAt D q 135 w' g.2.1 g.2.2 ∧ Mod (fun b => b = q) W w' := by rw [hm]; rfl
  rw [hgot] at hby
  rw [← hm] at hof
  have hxl : xs.length ≤ 1000 := by rw [← hl, List.length_map] at hin; exact hin
  obtain ⟨kk, hkk⟩ : ∃ k : Int, k = if o.isSome = true then 0 else 4 := ⟨_, rfl⟩
  have HG := Lib.hid (fun X X' (e : Ending) (h : OfEnds g.1 X e X') => (by have := h.enc; rwa [← ho, ← hkk] at this : ∃ x : EnC, e = .returned (.tuple #[.agg #[.string ⟨x.nm.toArray⟩, .slice x.A x.ats.length x.c], .int .i64 kk]) ∧ x.ent = entO o ∧ x.Ok (fun b => X.heap.size ≤ b ∧ b < X'.heap.size) X' ∧ x.ats.length ≤ 1099511627776))
  have HBy := Lib.hid hby
  have HOf := Lib.hid hof
  have HST := Lib.hid hst
  have HB := Lib.hid h1
  have HO := Lib.hid hown
  have HC := Lib.hid hC
  have HXs := Lib.hid hxs
  have HDX := Lib.hid hDX
  have HL := Lib.hid hl
  have HQ := Lib.hid (show bX ≠ q ∧ bX < W.heap.size from ⟨(hC bX (.inl rfl)).2.1, (hC bX (.inl rfl)).1⟩)
  have HXl := Lib.hid hxl
  have hqb := (hC bX (.inl rfl)).2.1
  have hlen : (l ++ [entO o]).length = xs.length + 1 := by rw [← hl]; simp
  have hd : decide (((xs.length + 1 : Nat) : Int) ≤ 1000) = dz := by rw [hdz]; exact dec_len (by rw [← hl, List.length_map])
  have HD := Lib.hid hd
  have HNV := Lib.hid (show ¬ v.ownBlock = some bX from fun h => by have := (hown.fresh bX h).1; omega)
  have HVq := Lib.hid (show ∀ b, v.ownBlock = some b → b ≠ q ∧ b < W.heap.size from fun b hb => ⟨(hC b (.inr (.inl hb))).2.1, (hC b (.inr (.inl hb))).1⟩)
  clear hd hdz hby hof hst h1 hown hC hxs hDX hl hat hsz hin hxl hg hgot hglen hm hlen
  show Calls Tryz.prog 52 #[.pointer (some ⟨q, 0, none⟩), .pointer (some ⟨bX, 0, none⟩)] W _
  cases o with
  | none =>
    obtain rfl : kk = 4 := by rw [hkk]; rfl
    clear hkk
    go_enter Tryz.func52, Tryz.ntmps52
    go_wp2_with (first
      | (go_at_call 54
         (with_reducible refine HBy.out.mono ?_)
         rintro e w1 ⟨A1, rfl, hrd1, hat1, hm1⟩
         have HOf1 := Lib.hid (HOf.out A1 w1 hrd1)
         have HAT1 := Lib.hid hat1
         have HM1 := Lib.hid hm1
         clear hrd1 hat1 hm1)
      | (go_at_call 53
         (with_reducible refine HOf1.out.mono ?_)
         intro e w2 hr2
         obtain ⟨x, rfl, hxe, hox, hxl⟩ := HG.out _ _ _ hr2
         obtain ⟨n, hn⟩ : ∃ n, n = x.ats.length := ⟨_, rfl⟩
         have hb2 := hp_mod (hp_mod HB.out HM1.out HQ.out.1) hr2.2 id
         have hblt := hp_lt hb2
         have d1 : ¬ w2.heap.size = bX := by omega
         have d2 : ¬ bX = w2.heap.size := by omega
         have x2 : w2.cell? ⟨bX, 2, none⟩ = some v := by rw [hp_cell hb2]; rfl
         have x2' : w2.cell? ⟨bX, 0 + 2, none⟩ = some v := by rw [hp_cell hb2]; rfl
         have HN := Lib.hid hn
         have HB2 := Lib.hid hb2
         have HXE := Lib.hid hxe
         have HOX := Lib.hid hox
         have HXl2 := Lib.hid hxl
         have HM2 := Lib.hid hr2.2
         have HO2 := Lib.hid ((HO.out.mod HM1.out fun b hb => (HVq.out b hb).1).mod hr2.2 fun _ _ => id)
         rw [← hn]
         clear hr2 hb2 hxe hox hxl hn)
      | (at_builtin
         have hq1 := HO2.out.mod (C := fun _ => False) (w' := (w2.alloc (Obj.cells #[Value.string ⟨x.nm.toArray⟩, Value.slice x.A n x.c] 68)).alloc (Obj.cells #[Value.string ⟨x.nm.toArray⟩, Value.slice x.A n x.c] 68)) (by (repeat' (first | exact Mod.refl _ _ | assumption | refine Mod.alloc ?_ _ | refine Mod.drew ?_ | refine Mod.drewN ?_ _ | refine Mod.setCell ?_ (by first | exact Or.inl rfl | (right; simp; done) | (right; simp; omega) | (left; simp; done)) _))) fun _ _ => id
         have hq2 := Rd.one (sz := 2) (cs := EnC.cs) (x := x) (hp_at (n := w2.heap.size + 1) (w2.alloc (Obj.cells #[Value.string ⟨x.nm.toArray⟩, Value.slice x.A n x.c] 68)) (Obj.cells #[Value.string ⟨x.nm.toArray⟩, Value.slice x.A n x.c] 68) (by simp)) (congrArg (fun k => [Value.string ⟨x.nm.toArray⟩, Value.slice x.A k x.c]) HN.out)
         refine wpList_app (base := bX + 1) (xs := xs) (ys := [x]) (v := v) rfl (.tmp 13) (.tmp 15) rfl ents_t EnC.cs_len EnC.cs_one rfl hq1 1 rfl rfl hq2 ?_ ?_ ?_ ?_
         · have := HXl.out; simp [maxLen]; omega
         · have := HXl.out; simp; omega
         · simp; omega
         intro v' w4 hown4 hm4 hat4
         obtain ⟨A4, c4, hv4, -, -, -⟩ := OwnS.rd hown4 EnC.cs_len
         have hn4 : (xs ++ [x]).length = xs.length + 1 := by simp
         rw [hn4] at hv4
         obtain ⟨n4, hn4e⟩ : ∃ k, k = xs.length + 1 := ⟨_, rfl⟩
         rw [← hn4e] at hv4
         subst hv4
         have hb4 := hp_mod (hp_alloc (hp_alloc HB2.out _) _) hm4 HNV.out
         have x4 : w4.cell? ⟨bX, 2, none⟩ = some v := by rw [hp_cell hb4]; rfl
         have x4' : w4.cell? ⟨bX, 0 + 2, none⟩ = some v := by rw [hp_cell hb4]; rfl
         have f4 : w4.frozen? ⟨bX, 2, none⟩ = false := hp_free hb4 _
         have f4' : w4.frozen? ⟨bX, 0 + 2, none⟩ = false := hp_free hb4 _
         have HK := Lib.hid (of1_fin HC.out HXs.out HDX.out HM1.out HM2.out HOX.out HXl2.out (by (repeat' (first | exact Mod.refl _ _ | assumption | refine Mod.alloc ?_ _ | refine Mod.drew ?_ | refine Mod.drewN ?_ _ | refine Mod.setCell ?_ (by first | exact Or.inl rfl | (right; simp; done) | (right; simp; omega) | (left; simp; done)) _))) (by simp <;> omega) hm4 hqlt hown4 hat4 hb4 HAT1.out)
         have hd4 : decide ((n4 : Int) ≤ 1000) = dz := by rw [hn4e]; exact HD.out
         have HN4 := Lib.hid hn4e
         have hb4c := hp_lt hb4
         clear hown4 hm4 hat4 hb4 hn4 hn4e)
      | fail)
    go_ret
    obtain ⟨k1, k2, k3⟩ := HK.out
    have e : (xs ++ [x]).map EnC.ent = l ++ [entO none] := by rw [List.map_append, HL.out]; show _ ++ [x.ent] = _; rw [HXE.out]
    rw [e] at k3
    rw [HST.out]
    exact ⟨rfl, k1, k2, k3⟩
  | some o =>
    obtain rfl : kk = 0 := by rw [hkk]; rfl
    clear hkk
    go_enter Tryz.func52, Tryz.ntmps52
    go_wp2_with (first
      | (go_at_call 54
         (with_reducible refine HBy.out.mono ?_)
         rintro e w1 ⟨A1, rfl, hrd1, hat1, hm1⟩
         have HOf1 := Lib.hid (HOf.out A1 w1 hrd1)
         have HAT1 := Lib.hid hat1
         have HM1 := Lib.hid hm1
         clear hrd1 hat1 hm1)
      | (go_at_call 53
         (with_reducible refine HOf1.out.mono ?_)
         intro e w2 hr2
         obtain ⟨x, rfl, hxe, hox, hxl⟩ := HG.out _ _ _ hr2
         obtain ⟨n, hn⟩ : ∃ n, n = x.ats.length := ⟨_, rfl⟩
         have hb2 := hp_mod (hp_mod HB.out HM1.out HQ.out.1) hr2.2 id
         have hblt := hp_lt hb2
         have d1 : ¬ w2.heap.size = bX := by omega
         have d2 : ¬ bX = w2.heap.size := by omega
         have x2 : w2.cell? ⟨bX, 2, none⟩ = some v := by rw [hp_cell hb2]; rfl
         have x2' : w2.cell? ⟨bX, 0 + 2, none⟩ = some v := by rw [hp_cell hb2]; rfl
         have HN := Lib.hid hn
         have HB2 := Lib.hid hb2
         have HXE := Lib.hid hxe
         have HOX := Lib.hid hox
         have HXl2 := Lib.hid hxl
         have HM2 := Lib.hid hr2.2
         have HO2 := Lib.hid ((HO.out.mod HM1.out fun b hb => (HVq.out b hb).1).mod hr2.2 fun _ _ => id)
         rw [← hn]
         clear hr2 hb2 hxe hox hxl hn)
      | (at_builtin
         have hq1 := HO2.out.mod (C := fun _ => False) (w' := (w2.alloc (Obj.cells #[Value.string ⟨x.nm.toArray⟩, Value.slice x.A n x.c] 68)).alloc (Obj.cells #[Value.string ⟨x.nm.toArray⟩, Value.slice x.A n x.c] 68)) (by (repeat' (first | exact Mod.refl _ _ | assumption | refine Mod.alloc ?_ _ | refine Mod.drew ?_ | refine Mod.drewN ?_ _ | refine Mod.setCell ?_ (by first | exact Or.inl rfl | (right; simp; done) | (right; simp; omega) | (left; simp; done)) _))) fun _ _ => id
         have hq2 := Rd.one (sz := 2) (cs := EnC.cs) (x := x) (hp_at (n := w2.heap.size + 1) (w2.alloc (Obj.cells #[Value.string ⟨x.nm.toArray⟩, Value.slice x.A n x.c] 68)) (Obj.cells #[Value.string ⟨x.nm.toArray⟩, Value.slice x.A n x.c] 68) (by simp)) (congrArg (fun k => [Value.string ⟨x.nm.toArray⟩, Value.slice x.A k x.c]) HN.out)
         refine wpList_app (base := bX + 1) (xs := xs) (ys := [x]) (v := v) rfl (.tmp 13) (.tmp 15) rfl ents_t EnC.cs_len EnC.cs_one rfl hq1 1 rfl rfl hq2 ?_ ?_ ?_ ?_
         · have := HXl.out; simp [maxLen]; omega
         · have := HXl.out; simp; omega
         · simp; omega
         intro v' w4 hown4 hm4 hat4
         obtain ⟨A4, c4, hv4, -, -, -⟩ := OwnS.rd hown4 EnC.cs_len
         have hn4 : (xs ++ [x]).length = xs.length + 1 := by simp
         rw [hn4] at hv4
         obtain ⟨n4, hn4e⟩ : ∃ k, k = xs.length + 1 := ⟨_, rfl⟩
         rw [← hn4e] at hv4
         subst hv4
         have hb4 := hp_mod (hp_alloc (hp_alloc HB2.out _) _) hm4 HNV.out
         have x4 : w4.cell? ⟨bX, 2, none⟩ = some v := by rw [hp_cell hb4]; rfl
         have x4' : w4.cell? ⟨bX, 0 + 2, none⟩ = some v := by rw [hp_cell hb4]; rfl
         have f4 : w4.frozen? ⟨bX, 2, none⟩ = false := hp_free hb4 _
         have f4' : w4.frozen? ⟨bX, 0 + 2, none⟩ = false := hp_free hb4 _
         have HK := Lib.hid (of1_fin HC.out HXs.out HDX.out HM1.out HM2.out HOX.out HXl2.out (by (repeat' (first | exact Mod.refl _ _ | assumption | refine Mod.alloc ?_ _ | refine Mod.drew ?_ | refine Mod.drewN ?_ _ | refine Mod.setCell ?_ (by first | exact Or.inl rfl | (right; simp; done) | (right; simp; omega) | (left; simp; done)) _))) (by simp <;> omega) hm4 hqlt hown4 hat4 hb4 HAT1.out)
         have hd4 : decide ((n4 : Int) ≤ 1000) = dz := by rw [hn4e]; exact HD.out
         have HN4 := Lib.hid hn4e
         have hb4c := hp_lt hb4
         clear hown4 hm4 hat4 hb4 hn4 hn4e)
      | fail)
    go_ret
    obtain ⟨k1, k2, k3⟩ := HK.out
    have e : (xs ++ [x]).map EnC.ent = l ++ [entO (some o)] := by rw [List.map_append, HL.out]; show _ ++ [x.ent] = _; rw [HXE.out]
    rw [e] at k3
    rw [HST.out]
    exact ⟨rfl, k1, k2, k3⟩
end Go.Proofs.YtmalclclopnlnaaGreat
