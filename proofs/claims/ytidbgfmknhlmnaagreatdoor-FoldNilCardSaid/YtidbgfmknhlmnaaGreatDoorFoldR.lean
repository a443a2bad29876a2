/-
  Foldings, read.
-/
import Derived.Test.YtidbgfmknhlmnaaGreatDoorFoldC
namespace Go.Proofs.YtidbgfmknhlmnaaGreatDoor
open Go.RowKit Go.Shelf Go.Sort
attribute [local go_sem] Oper.semAt_some run_makeMap

/-- What reading ends in. -/
def ReadV (w w' : World) (e : Ending) : (List FL) ⊕ Nat → Prop
  | .inl ls => ∃ (fb m1 m2 : Nat) (hs : List FH), e = .returned (.tuple #[ptrV fb, .nilIface]) ∧ hs.map FH.x = ls ∧ FoldM w' fb m1 m2 (fullM hs) (simpM hs) ∧ (∀ h ∈ hs, Rd (fun b => w.heap.size ≤ b ∧ b < w'.heap.size) w' 1 csI h.A (natI h.x.row)) ∧ w.heap.size ≤ fb ∧ w.heap.size ≤ m1 ∧ w.heap.size ≤ m2
  | .inr n => ∃ b, e = .returned (.tuple #[.pointer none, .iface 47 (ptrV b)]) ∧ ErrAt w' b n 6 ∧ w.heap.size ≤ b

theorem lineFL_short {F : List Bs} (h : F.length < 3) : lineFL F = none := by
  match F, h with
  | [], _ => rfl
  | [_], _ => rfl
  | [_, _], _ => rfl
theorem st_none {s : Bs} {b1 b3 : Nat} (h : stIs s = false) : mGet s (stV b1 b3) = none := by
  simp only [stIs, Bool.or_eq_false_iff, beq_eq_false_iff_ne, ne_eq] at h
  obtain ⟨⟨⟨h1, h2⟩, h3⟩, h4⟩ := h
  simp [stV, mGet, h1, h2, h3, h4]
theorem st_some {s : Bs} {b1 b3 : Nat} (h : stIs s = true) : ∃ g caps, mGet s (stV b1 b3) = some (.func (.func g) #[] caps) := by
  rcases st_one h with rfl | rfl | rfl | rfl
  · exact ⟨_, _, rfl⟩
  · exact ⟨_, _, rfl⟩
  · exact ⟨_, _, rfl⟩
  · exact ⟨_, _, rfl⟩
theorem rowV_open {w w' : World} {v : Value} {o : Option (List Nat)} (h : RowV w w' v o) : ∃ A c, v = .tuple #[.slice A (o.getD []).length c, .bool o.isSome] ∧ Rd (fun b => w.heap.size ≤ b ∧ b < w'.heap.size) w' 1 csI A (natI (o.getD [])) := by
  cases o with
  | none => exact ⟨none, 0, h, fun h0 => absurd h0 (by decide)⟩
  | some ns =>
    obtain ⟨s, rfl, hs⟩ := h
    obtain ⟨A, c, rfl, hr, hf, -⟩ := hs.rd (fun _ => rfl)
    have hl : (natI ns).length = ns.length := by simp [natI]
    exact ⟨A, c, by rw [hl]; rfl, hr.mono fun b hb => hf b hb⟩
theorem hadL_st {l : List FL} (h : ∀ x ∈ l, aloneL x = true) (r : Nat) : ∀ b ∈ hadL l r, stB b := by
  intro b hb
  obtain ⟨y, hy, hb⟩ := List.mem_flatMap.1 hb
  unfold stB
  rcases st_one (aloneL_st (h y (List.mem_filter.1 hy).1)) with e | e | e | e <;> rw [e] at hb <;> simp at hb <;> subst hb <;> decide
theorem rowOf_ne {l : Bs} {ns : List Nat} (h : rowOf l = some ns) : ns ≠ [] := by
  rw [rowOf_P] at h
  intro e
  subst e
  cases hp : rowP [] (fldA [] l) with
  | none => simp [hp] at h
  | some ns =>
    cases ns with
    | nil => simp [hp] at h
    | cons a t => simp [hp] at h
theorem all_sur (row : List Nat) : (row.all fun r => !surN r) = !row.any surN := by
  induction row with
  | nil => rfl
  | cons x t ih => simp [List.all_cons, List.any_cons, ih, Bool.not_or]
theorem put_eq {ls : List FL} {f0 f1 f2 : Bs} {ft : List Bs} (hst : stIs f1 = true) (hg : GoodL ls) :
    putL ls (f0 :: f1 :: f2 :: ft) = if (codeOf f0).isSome && (rowOf f2).isSome && !surI ((codeOf f0).getD 0 : Nat) && !(natI ((rowOf f2).getD [])).any surI && !(hadL ls ((codeOf f0).getD 0)).any (fun b => clashB b f1) && lenOk f1 ((rowOf f2).getD []).length
      then some (ls ++ [⟨(codeOf f0).getD 0, f1, (rowOf f2).getD []⟩]) else none := by
  unfold putL
  cases h0 : codeOf f0 with
  | none => simp [lineFL, h0]
  | some r =>
    cases h2 : rowOf f2 with
    | none => simp [lineFL, h0, h2]
    | some row =>
      have hc := clash_had (x := ⟨r, f1, row⟩) hg.alone hst
      have hrow : (natI row).any surI = row.any surN := by
        unfold natI
        rw [List.any_map]
        congr 1
        funext x
        exact surI_nat x
      have hall := all_sur row
      simp only [lineFL, h0, h2, Option.getD_some, Option.isSome_some, Bool.true_and, mayL, aloneL, hst, Bool.and_true, surI_nat, hrow, hall]
      rw [← hc]
      congr 1
      cases surN r <;> cases row.any surN <;> cases (hadL ls r).any (fun b => clashB b f1) <;> cases lenOk f1 row.length <;> rfl
theorem wpIn_as {P : Program} {c : Code} {F : Fence} {n : Nat} {Q : Exit → Act → World → Prop} {a : Act} {w : World} (Φ : World → Prop) (hΦ : Φ w) (h : ∀ W, Φ W → c.wpIn F n P Q a W) : c.wpIn F n P Q a w := h w hΦ
set_option maxRecDepth 100000 in
set_option maxHeartbeats 4000000 in
theorem fread_any (l : Bs) (w : World) (hl : l.length ≤ 1000000) (hmx : MaxVar w) : Calls Tryz.prog 28 #[.string ⟨l.toArray⟩] w fun e w' => ReadV w w' e (foldT l) ∧ Mod (fun _ => False) w w' := by
  have hml : 1 < w.heap.size := by obtain ⟨m, hc⟩ := hmx; exact World.block_lt_of_cell? w _ hc
  have HMX := Lib.hid hmx
  have hlen : decide (8388608 < (l.length : Int)) = false := by simp; omega
  clear hmx
  refine callsIn_wide.1 (callsIn_of_wp_marks (n := 0) (F := Fence.wide) Tryz.func28 rfl trivial ?_ rfl)
  simp only [Tryz.ntmps28, List.size_toArray, List.length_cons, List.length_nil, Nat.reduceAdd, Nat.reduceSub, Array.replicate_succ, Array.replicate_zero, List.push_toArray, List.append_toArray, List.nil_append, List.cons_append]
  gi_wp2_with (first
    | ((refine ⟨trivial, rfl, ?_⟩; gi_at_call 45); refine ci (fstat_any _ _) ?_; rintro e w1 ⟨d, b1, b3, rfl, hst, hm1, hb1, hb3, hd⟩)
    | ((refine ⟨trivial, rfl, ?_⟩; gi_at_call 46); refine ci (flines_any l _) ?_; rintro e w2 ⟨rfl, rfl⟩)
    | fail)
  have q2 : w1.heap[w.heap.size]? = some (.cells #[.pointer none] 24 (0, 0)) := hp_mod (by (repeat' (first | exact hp_new _ _ | exact hp_at _ _ (by simp; done) | refine hp_alloc ?_ _ | refine hp_drew ?_ | refine hp_drewN ?_ _ | apply hp_set | refine hp_far ?_ (by first | (simp; omega) | (simp; done)) _))) hm1 id
  have q3 : w1.heap[w.heap.size + 1]? = some (.cells #[.nilIface] 43 (0, 0)) := hp_mod (by (repeat' (first | exact hp_new _ _ | exact hp_at _ _ (by simp; done) | refine hp_alloc ?_ _ | refine hp_drew ?_ | refine hp_drewN ?_ _ | apply hp_set | refine hp_far ?_ (by first | (simp; omega) | (simp; done)) _))) hm1 id
  have q4 : w1.heap[w.heap.size + 1 + 1]? = some (.map #[] 0) := hp_mod (hp_alloc (hp_alloc (hp_alloc (hp_alloc (hp_at _ _ (by simp)) _) _) _) _) hm1 id
  have q5 : w1.heap[w.heap.size + 1 + 1 + 1]? = some (.map #[] 0) := hp_mod (hp_alloc (hp_alloc (hp_alloc (hp_at _ _ (by simp)) _) _) _) hm1 id
  have q6 : w1.heap[w.heap.size + 1 + 1 + 1 + 1]? = some (.cells #[.map (some (w.heap.size + 1 + 1)), .map (some (w.heap.size + 1 + 1 + 1))] 63 (0, 0)) := hp_mod (by (repeat' (first | exact hp_new _ _ | exact hp_at _ _ (by simp; done) | refine hp_alloc ?_ _ | refine hp_drew ?_ | refine hp_drewN ?_ _ | apply hp_set | refine hp_far ?_ (by first | (simp; omega) | (simp; done)) _))) hm1 id
  have q7 : w1.heap[w.heap.size + 1 + 1 + 1 + 1 + 1]? = some (.map #[] 0) := hp_mod (by (repeat' (first | exact hp_new _ _ | exact hp_at _ _ (by simp; done) | refine hp_alloc ?_ _ | refine hp_drew ?_ | refine hp_drewN ?_ _ | apply hp_set | refine hp_far ?_ (by first | (simp; omega) | (simp; done)) _))) hm1 id
  have q8 : w1.heap[w.heap.size + 1 + 1 + 1 + 1 + 1 + 1]? = some (.cells #[.map (some (w.heap.size + 1 + 1 + 1 + 1 + 1))] 100 (0, 0)) := hp_mod (by (repeat' (first | exact hp_new _ _ | exact hp_at _ _ (by simp; done) | refine hp_alloc ?_ _ | refine hp_drew ?_ | refine hp_drewN ?_ _ | apply hp_set | refine hp_far ?_ (by first | (simp; omega) | (simp; done)) _))) hm1 id
  have hM : Mod (fun _ => False) w w1 := Mod.trans' (by (repeat' (first | exact Mod.refl _ _ | assumption | refine Mod.alloc ?_ _ | refine Mod.drew ?_ | refine Mod.drewN ?_ _ | refine Mod.setCell ?_ (by first | exact Or.inl rfl | (right; simp; done) | (right; simp; omega) | (left; simp; done)) _))) hm1
  have n1 := cell_lt hst.p1
  have n3 := cell_lt hst.p3
  have nd := hp_lt hst.mp
  simp only [World.size_alloc] at hb1 hb3 hd
  obtain ⟨B, hB⟩ : ∃ B, B = w.heap.size := ⟨_, rfl⟩
  obtain ⟨S, hS⟩ : ∃ S, S = w1.heap.size := ⟨_, rfl⟩
  have hBS := hp_lt q8
  rw [← hB] at hst hb1 hb3 hd q2 q3 q4 q5 q6 q7 q8 hml hBS ⊢
  rw [← hS] at n1 n3 nd hBS ⊢
  obtain ⟨K, hK⟩ : ∃ K : RdK, K = ⟨B, B + 1, B + 1 + 1 + 1 + 1, B + 1 + 1, B + 1 + 1 + 1, B + 1 + 1 + 1 + 1 + 1 + 1, B + 1 + 1 + 1 + 1 + 1, S, d, b1, b3⟩ := ⟨_, rfl⟩
  have hbase : ∀ b ∈ K.base, B ≤ b ∧ b < S + 1 := by
    subst hK
    simp only [RdK.base, List.mem_cons, List.not_mem_nil, or_false, forall_eq_or_imp, forall_eq]
    refine ⟨?_, ?_, ?_, ?_, ?_, ?_, ?_, ?_, ?_, ?_, ?_⟩ <;> first | omega | (simp only at *; omega)
  refine wpIn_as (fun W => W.heap.size = S + 2 ∧ RdSt K [] (fun b => B ≤ b ∧ b < S + 1) W ∧ W.cell? ⟨S + 1, 0, none⟩ = some (.string ⟨l.toArray⟩) ∧ Mod (fun _ => False) w W) ?_ ?_
  · refine ⟨by simp [hS], ?_, ?_, ?_⟩
    · subst hK
      have st : Mod (fun _ => False) w1 ((w1.alloc (.cells #[.map (some d)] 101)).alloc (.cells #[.string ⟨l.toArray⟩] 9)) := by (repeat' (first | exact Mod.refl _ _ | assumption | refine Mod.alloc ?_ _ | refine Mod.drew ?_ | refine Mod.drewN ?_ _ | refine Mod.setCell ?_ (by first | exact Or.inl rfl | (right; simp; done) | (right; simp; omega) | (left; simp; done)) _))
      refine ⟨hp_mod q2 st id, hp_mod q3 st id, ⟨hp_cell (hp_mod q6 st id) 0, hp_cell (hp_mod q6 st id) 1, hp_mod q4 st id, hp_mod q5 st id, by simp⟩, hp_cell (hp_mod q8 st id) 0, ⟨[], hp_mod q7 st id, hadP.nil⟩, hp_cell (hp_alloc (hp_at _ _ hS) _) 0, hst.mod st id id id, by simp, hbase⟩
    · exact hp_cell (hp_at _ _ (by simp [hS])) 0
    · exact (hM.alloc _).alloc _
  rintro W1 ⟨hsz, hR, hLn, hmW⟩
  have HK := Lib.hid hK
  have HB := Lib.hid hB
  have HBase := Lib.hid hbase
  have HMW := Lib.hid hmW
  have HRd := Lib.hid (show readL [] (linesT l) = foldT l from rfl)
  have hBw : 0 < B := by omega
  have HAp := Lib.hid (show K.Apart by subst hK; exact ⟨by show d ≠ B + 1 + 1; omega, by show d ≠ B + 1 + 1 + 1; omega, by show d ≠ B + 1 + 1 + 1 + 1 + 1; omega, by show B + 1 + 1 + 1 + 1 + 1 ≠ B + 1 + 1; omega, by show B + 1 + 1 + 1 + 1 + 1 ≠ B + 1 + 1 + 1; omega⟩)
  have hBS' : B + 7 ≤ S := by omega
  clear q2 q3 q4 q5 q6 q7 q8 hM hst n1 n3 nd hb1 hb3 hd hB hS hbase hm1 hBS
  refine wp_rangeG (gf := 66) (lb := #[.pointer (some ⟨S + 1, 0, none⟩)]) rfl (enters_of Tryz.func66 (by kernel_rfl) rfl) lnIt_ok
    (flines1_iter (S + 1) l (fun b => b = S + 1 ∨ b = 1) W1 hl hLn (.inl rfl) (.inr rfl) (fun b hb => by rcases hb with rfl | rfl <;> omega) (HMX.out.mod hmW id))
    (fun b hb => by rcases hb with (rfl | rfl) | h <;> first | omega | exact h.elim) rfl
    (lpI l K) (lpX l K) (lpA l K) (lpI_stab l K) (lpX_stab l K) (lpA_stab l K)
    (fun b => B ≤ b ∧ b < S + 1) (fun b hb => ⟨by omega, fun hd => by rcases hd with h | h <;> omega, id⟩) ⟨[], hR, rfl⟩ trivial ?assign ?body ?done ?stop
  case assign =>
    rintro l' k hk enc R C W' hI - ⟨x, A5, -, rfl, -⟩ - hm' hb'
    have HI := Lib.hid hI
    clear hI hR hLn hmW
    gi_wp2
    exact ⟨C, ⟨_, _, rfl, rfl, HI.out⟩, Mod.refl _ _, fun b hb => ⟨(hb' b hb).1, .inl hb⟩⟩
  case body =>
    rintro l' k hk enc R C a' W' ⟨v0, v1, he, rfl, hs, hR', hrd⟩ - ⟨x, A5, hx, hen, hrF⟩ hRC hm' hb' - hCl hwl
    rw [hen] at he
    injection he with he
    injection he with he0 he
    injection he with he1 he
    subst he0 he1
    clear he
    have HX := Lib.hid hx
    have HRD := Lib.hid hrd
    have HSt := Lib.hid hR'
    have HMM := Lib.hid hm'
    have HBB := Lib.hid hb'
    have e2 : W'.heap[B]? = some (.cells #[.pointer none] 24 (0, 0)) := by subst hK; exact hR'.r2
    have e3 : W'.heap[B + 1]? = some (.cells #[.nilIface] 43 (0, 0)) := by subst hK; exact hR'.r3
    have eh : W'.cell? ⟨B + 1 + 1 + 1 + 1 + 1 + 1, 0, none⟩ = some (.map (some (B + 1 + 1 + 1 + 1 + 1))) := by subst hK; exact hR'.hc
    have ed : W'.cell? ⟨S, 0, none⟩ = some (.map (some d)) := by subst hK; exact hR'.dc
    have HStat := Lib.hid (show StAt W' d (B + 1 + 1 + 1 + 1) b1 b3 by subst hK; exact hR'.st)
    obtain ⟨F, hFx⟩ : ∃ F, F = x.2 := ⟨_, rfl⟩
    obtain ⟨ln, hln⟩ : ∃ ln, ln = x.1 := ⟨_, rfl⟩
    rw [← hFx] at hrF ⊢
    rw [← hln]
    obtain ⟨n5, hn5⟩ : ∃ n5, n5 = F.length := ⟨_, rfl⟩
    have hn5l : n5 ≤ 1000001 := by have := linesT_flen l _ (List.mem_of_getElem? hx); rw [hn5, hFx]; omega
    have HF := Lib.hid hrF
    rw [← hn5]
    have HXX := Lib.hid (And.intro hFx hln)
    have HN5 := Lib.hid hn5
    have HE2 := Lib.hid e2
    have HE3 := Lib.hid e3
    clear hx hrd hR' hm' hb' hrF hen hFx hln hn5 hR hLn hmW hK
    gi_wp2
    obtain ⟨E, hE⟩ : ∃ E, E = W'.heap.size := ⟨_, rfl⟩
    rw [← hE]
    refine wpIn_as (fun W => W.heap.size = E + 1 ∧ Mod (fun _ => False) W' W ∧ ErrAt W E ln 6) ⟨by simp [hE], by (repeat' (first | exact Mod.refl _ _ | assumption | refine Mod.alloc ?_ _ | refine Mod.drew ?_ | refine Mod.drewN ?_ _ | refine Mod.setCell ?_ (by first | exact Or.inl rfl | (right; simp; done) | (right; simp; omega) | (left; simp; done)) _)), by rw [hE]; exact hp_new _ _⟩ ?_
    rintro W2 ⟨hs2, hm2, her⟩
    have HM2 := Lib.hid hm2
    have HER := Lib.hid her
    have HE := Lib.hid hE
    have ed2 := cell_mod ed hm2 id
    have eh2 := cell_mod eh hm2 id
    have HE2 := Lib.hid (hp_mod HE2.out hm2 id)
    have HE3 := Lib.hid (hp_mod HE3.out hm2 id)
    have fBad : ∀ ls, readL [] ((linesT l).take k) = .inl ls → putL ls F = none → foldT l = .inr ln := fun ls h1 h2 => by
      rw [HXX.out.2, ← HRd.out]; exact read_stop h1 HX.out (by rw [← HXX.out.1]; exact h2)
    have FB := Lib.hid (fBad _ HRD.out)
    -- what is left when a line is bad
    have fExit : ∀ X, Mod (fun b => b = B + 1 + 1 ∨ b = B + 1 + 1 + 1) W2 X → foldT l = .inr ln → ∃ C', lpX l K .ret (k + 1) C' ((X.setCell ⟨B, 0, none⟩ (.pointer none)).setCell ⟨B + 1, 0, none⟩ (.iface 47 (ptrV E))) ∧ Mod C W' ((X.setCell ⟨B, 0, none⟩ (.pointer none)).setCell ⟨B + 1, 0, none⟩ (.iface 47 (ptrV E))) ∧
        ∀ b, C' b → b < ((X.setCell ⟨B, 0, none⟩ (.pointer none)).setCell ⟨B + 1, 0, none⟩ (.iface 47 (ptrV E))).heap.size ∧ (C b ∨ W'.heap.size ≤ b) := fun X hX hf => by
      have o := HSt.out.own
      have oM : C (B + 1 + 1) ∧ C (B + 1 + 1 + 1) := by
        have := HSt.out.own
        rw [HK.out] at this
        exact ⟨this (B + 1 + 1) (by simp [RdK.base]), this (B + 1 + 1 + 1) (by simp [RdK.base])⟩
      have hX2 : X.heap[B]? = some (.cells #[.pointer none] 24 (0, 0)) := hp_mod HE2.out hX (by omega)
      have hX3 : X.heap[B + 1]? = some (.cells #[.nilIface] 43 (0, 0)) := hp_mod HE3.out hX (by omega)
      have hXE := hp_mod (show W2.heap[E]? = _ from HER.out) hX (by have := (HBB.out _ oM.1).1; have := (HBB.out _ oM.2).1; have := HE.out; omega)
      have hEl := hp_lt hXE
      have l2 := hp_lt hX2
      have l3 := hp_lt hX3
      have oB : C B ∧ C (B + 1) := by
        have := HSt.out.own
        rw [HK.out] at this
        exact ⟨this B (by simp [RdK.base]), this (B + 1) (by simp [RdK.base])⟩
      have hEB := HE.out
      have hBl := (HBB.out _ oB.1).1
      have hBl3 := (HBB.out _ oB.2).1
      refine ⟨fun b => b = B ∨ b = B + 1 ∨ b = E, ⟨rfl, E, ln, ?_, ?_, ?_, .inr (.inr rfl), ?_, ?_, hf⟩, ?_, ?_⟩
      · rw [HK.out]; exact hp_far (hp_eq (hp_set hX2 0 _) (by simp)) (by simp) _
      · rw [HK.out]; exact hp_eq (hp_set (hp_far hX3 (by simp) _) 0 _) (by simp)
      · exact hp_far (hp_far hXE (by simp; omega) _) (by simp; omega) _
      · rw [HK.out]; exact .inl rfl
      · rw [HK.out]; exact .inr (.inl rfl)
      · exact ((((HM2.out.mono fun _ _ h => h.elim).trans (hX.mono (C' := C) fun b _ h => by rcases h with rfl | rfl; exact oM.1; exact oM.2) fun _ h => .inl h).setCell (.inl oB.1) _).setCell (.inl oB.2) _)
      · rintro b (rfl | rfl | rfl)
        · exact ⟨by simpa [World.setCell] using l2, .inl oB.1⟩
        · exact ⟨by simpa [World.setCell] using l3, .inl oB.2⟩
        · exact ⟨by simpa [World.setCell] using hEl, .inr (by omega)⟩
    have FE := Lib.hid fExit
    have HED := Lib.hid ed2
    have HEH := Lib.hid eh2
    clear fBad fExit hm2 her hE ed eh
    by_cases h3 : n5 < 3
    · have g1 : decide ((n5 : Int) < 3) = true := by simp; omega
      have g2 : decide (n5 < 3) = true := by simp; omega
      have HG := Lib.hid (FB.out (by unfold putL; rw [show lineFL F = none from lineFL_short (by rw [← HN5.out]; exact h3)]))
      refine fw_region_below (ro := some _) (by kernel_rfl) (by kernel_rfl) (by kernel_rfl) ?_
      repeat (go_big_quiet_step ((first | (fail) | fail)))
      refine wpQuiet_nil ?_
      intro W1 hW1
      have HQ := mod_of_regrown hW1
      clear hW1
      have f2 := hp_free (hp_mod HE2.out HQ id) 0
      have f3 := hp_free (hp_mod HE3.out HQ id) 0
      have c2 := hp_cell (hp_mod HE2.out HQ id) 0
      have c3 := hp_cell (hp_mod HE3.out HQ id) 0
      have HQ' := Lib.hid HQ
      clear HQ
      gi_wp2
      exact FE.out _ (HQ'.out.mono fun _ _ h => h.elim) HG.out
    · obtain ⟨b5, o5, hA5, h5R, hF⟩ := HF.out (by rw [← HN5.out]; omega)
      injection hA5 with hA5
      subst hA5
      obtain ⟨f0, f1, f2, ft, hFF⟩ : ∃ f0 f1 f2 ft, F = f0 :: f1 :: f2 :: ft := by
        have := HN5.out
        match F, this with
        | [], e => exact absurd e (by simp; omega)
        | [_], e => exact absurd e (by simp; omega)
        | [_, _], e => exact absurd e (by simp; omega)
        | f0 :: f1 :: f2 :: ft, _ => exact ⟨f0, f1, f2, ft, rfl⟩
      have z0 : W2.cell? ⟨b5, o5, none⟩ = some (.string ⟨f0.toArray⟩) := cell_mod (by have := hF 0 (by rw [hFF]; simp) 0 _ rfl; simpa [hFF] using this) HM2.out id
      have z1 : W2.cell? ⟨b5, o5 + 1, none⟩ = some (.string ⟨f1.toArray⟩) := cell_mod (by have := hF 1 (by rw [hFF]; simp) 0 _ rfl; simpa [hFF] using this) HM2.out id
      have z2 : W2.cell? ⟨b5, o5 + 2, none⟩ = some (.string ⟨f2.toArray⟩) := cell_mod (by have := hF 2 (by rw [hFF]; simp) 0 _ rfl; simpa [hFF] using this) HM2.out id
      have g1 : decide ((n5 : Int) < 3) = false := by simp; omega
      have g2 : decide (n5 < 3) = false := by simp; omega
      have g5 : 1 < n5 := by omega
      have g6 : 0 < n5 := by omega
      have g7 : 2 < n5 := by omega
      have HFF := Lib.hid hFF
      have HZ := Lib.hid (And.intro z0 (And.intro z1 z2))
      have q1 := cell_regrown z1
      have q2 := cell_regrown ed2
      have hlk : ∀ (dd : Nat) (os : Array Obj), (Instr.lookup 101 (.map (some d)) (.string ⟨f1.toArray⟩) false).run Tryz.prog (grow (redrawn W2 dd) os) = .ok ((mGet f1 (stV b1 b3)).getD .nilFunc) (grow (redrawn W2 dd) os) := fun dd os =>
        run_mget kvS_t Tryz.underlying101 (z := .nilFunc) (by kernel_rfl) (hp_mod (hp_mod HStat.out.mp HM2.out id) (mod_regrown W2 dd os) id) f1 false
      clear hF hFF z0 z1 z2 ed2 eh2
      by_cases hst : stIs f1 = true
      · obtain ⟨g, caps, hmg⟩ := st_some (b1 := b1) (b3 := b3) hst
        rw [hmg] at hlk
        have hlk : ∀ (dd : Nat) (os : Array Obj), (Instr.lookup 101 (.map (some d)) (.string ⟨f1.toArray⟩) false).run Tryz.prog (grow (redrawn W2 dd) os) = .ok (.func (.func g) #[] caps) (grow (redrawn W2 dd) os) := hlk
        have hnl := fun X => run_eql_func_nil (P := Tryz.prog) X Tryz.underlying98 (.func g) #[] caps
        have HMG := Lib.hid hmg
        have HST := Lib.hid hst
        clear hmg hst
        refine fw_region_below (ro := some _) (by kernel_rfl) (by kernel_rfl) (by kernel_rfl) ?_
        repeat (go_big_quiet_step ((first | (fail) | fail)))
        refine wpQuiet_nil ?_
        intro W1 hW1
        have HQ := mod_of_regrown hW1
        clear hW1
        have z0 := cell_mod HZ.out.1 HQ id
        have z2 := cell_mod HZ.out.2.2 HQ id
        have HQ' := Lib.hid HQ
        have hfl : ∀ f ∈ F, f.length ≤ 1000000 := fun f hf => Nat.le_trans (linesT_el l _ (List.mem_of_getElem? HX.out) f (by rw [← HXX.out.1]; exact hf)) hl
        have hf0 : f0.length ≤ 1000000 := hfl _ (by rw [HFF.out]; simp)
        have hf2 : f2.length ≤ 1000000 := hfl _ (by rw [HFF.out]; simp)
        clear hfl
        have HC := Lib.hid (fun X => fcode_any f0 X (by omega))
        have HRow := Lib.hid (fun X => frow_any f2 X hf2)
        obtain ⟨cr, hcr⟩ : ∃ cr, cr = codeOf f0 := ⟨_, rfl⟩
        obtain ⟨rr, hrr⟩ : ∃ rr, rr = rowOf f2 := ⟨_, rfl⟩
        rw [← hcr] at HC
        rw [← hrr] at HRow
        have HCR := Lib.hid (And.intro hcr hrr)
        obtain ⟨r, hr⟩ : ∃ r, r = cr.getD 0 := ⟨_, rfl⟩
        obtain ⟨gd, hgd⟩ : ∃ gd, gd = cr.isSome := ⟨_, rfl⟩
        have hcv : codeV cr = .tuple #[.int .i32 (r : Int), .bool gd] := by rw [hr, hgd]; rfl
        rw [hcv] at HC
        obtain ⟨is, his⟩ : ∃ is, is = rr.isSome := ⟨_, rfl⟩
        obtain ⟨n, hn⟩ : ∃ n, n = (rr.getD []).length := ⟨_, rfl⟩
        have HV := Lib.hid (And.intro hr (And.intro hgd (And.intro his hn)))
        clear HQ hcr hrr hr hgd hcv his hn hlk hnl q1 q2
        gi_wp2_with (first
          | ((refine ⟨trivial, rfl, ?_⟩; gi_at_call 47); refine ci (HC.out _) ?_; rintro e w3 ⟨rfl, hm3⟩; have z2 := cell_mod z2 hm3 id)
          | ((refine ⟨trivial, rfl, ?_⟩; gi_at_call 48); refine ci (HRow.out _) ?_; rintro e w4 ⟨v, rfl, hv, hm4⟩; obtain ⟨A, c, rfl, hA⟩ := rowV_open hv; rw [← HV.out.2.2.1, ← HV.out.2.2.2])
          | fail)
        have M24 := (HQ'.out.trans' hm3).trans' hm4
        have HW3 := Lib.hid (show W'.heap.size ≤ w3.heap.size from Nat.le_trans HM2.out.size (Nat.le_trans HQ'.out.size hm3.size))
        obtain ⟨row, hrow⟩ : ∃ row, row = rr.getD [] := ⟨_, rfl⟩
        rw [← hrow] at hA
        have hnr : n = row.length := by rw [hrow]; exact HV.out.2.2.2
        have hnl : n ≤ 1000000 := by rw [hnr, hrow, HCR.out.2]; exact Nat.le_trans (rowOf_len f2) hf2
        have HA := Lib.hid hA
        have M4 := HM2.out.trans' M24
        obtain ⟨ls, hls⟩ : ∃ ls, ls = hs.map FH.x := ⟨_, rfl⟩
        have HGood := Lib.hid (show GoodL ls by rw [hls]; exact GoodL.read GoodL.nil HRD.out)
        obtain ⟨s1, hs1⟩ : ∃ s1, s1 = surI (r : Int) := ⟨_, rfl⟩
        obtain ⟨s2, hs2⟩ : ∃ s2, s2 = (natI row).any surI := ⟨_, rfl⟩
        obtain ⟨hd, hhd⟩ : ∃ hd, hd = hadL ls r := ⟨_, rfl⟩
        have hlsl : ls.length ≤ 1000001 := by
          have := readL_len _ _ _ HRD.out
          rw [← hls, List.length_take] at this
          have h2 := linesL_len 0 (splitC 10 l)
          have h3 := splitC_len 10 l
          have h4 : (linesT l).length ≤ l.length + 1 := by unfold linesT; omega
          simp only [List.length_nil] at this
          omega
        have hhdl : hd.length ≤ 1000001 := by rw [hhd]; exact Nat.le_trans (hadL_len ls HGood.out.alone r) hlsl
        have hf1l : f1.length ≤ 1 := by rcases st_one HST.out with e | e | e | e <;> rw [e] <;> decide
        obtain ⟨cl, hcl⟩ : ∃ cl, cl = hd.any fun b => clashB b f1 := ⟨_, rfl⟩
        have HSur := Lib.hid (fun X (_ : Mod (fun _ => False) w4 X) => (fsur_any (r : Int) X).mono (R' := fun e w' => e = .returned (.bool s1) ∧ X = w') fun e w' h => ⟨by rw [hs1]; exact h.1, h.2.symm⟩)
        have HCont := Lib.hid (show ∀ X (_ : Mod (fun _ => False) w4 X), Calls Tryz.prog 50 #[.slice A n c, .func (.func 49) #[] #[]] X fun e w' => e = .returned (.bool s2) ∧ X = w' from fun X hX => by
          have := fcont_any _ A c (natI row) X (HA.out.mod hX fun b hb => ⟨hb.2, id⟩) (by simp [natI]; omega)
          rw [show (natI row).length = n by simp [natI, hnr]] at this
          exact this.mono fun e w' h => ⟨by rw [hs2]; exact h.1, h.2.symm⟩)
        have HClash := Lib.hid (show ∀ X (_ : Mod (fun _ => False) w4 X), Calls Tryz.prog 51 #[.string ⟨hd.toArray⟩, .string ⟨f1.toArray⟩] X fun e w' => e = .returned (.bool cl) ∧ Mod (fun _ => False) X w' from fun X _ => by
          rw [hcl]
          exact fclash_any hd f1 X (by rw [hhd]; exact hadL_st HGood.out.alone r) (st_one HST.out) (by omega))
        obtain ⟨Mh, hMh, hPh⟩ := HSt.out.hm
        have hMh : w4.heap[B + 1 + 1 + 1 + 1 + 1]? = some (mapO kvK Mh) := by rw [HK.out] at hMh; exact hp_mod hMh M4 id
        have HMh := Lib.hid (And.intro hMh hPh)
        have HLS := Lib.hid hls
        have HS := Lib.hid (And.intro hs1 (And.intro hs2 (And.intro hhd hcl)))
        have HNR := Lib.hid (And.intro hnr hrow)
        have HM4 := Lib.hid M4
        have HM24 := Lib.hid M24
        have HPut := Lib.hid (show putL (hs.map FH.x) F = if gd && is && !s1 && !s2 && !cl && lenOk f1 n then some (hs.map FH.x ++ [⟨r, f1, row⟩]) else none by
          rw [HFF.out, ← hls, hs1, hs2, hcl, hhd, hnr, hrow, HV.out.1, HV.out.2.1, HV.out.2.2.1, HCR.out.1, HCR.out.2]
          exact put_eq HST.out HGood.out)
        have z1 := cell_mod HZ.out.2.1 M24 id
        have q1 := cell_regrown z1
        have q2 := cell_regrown (cell_mod HED.out M24 id)
        have q3 := cell_regrown (cell_mod HEH.out M24 id)
        have hlk1 : ∀ (dd : Nat) (os : Array Obj), (Instr.lookup 100 (.map (some (B + 1 + 1 + 1 + 1 + 1))) (.int .i32 (r : Int)) false).run Tryz.prog (grow (redrawn w4 dd) os) = .ok (.agg #[.string ⟨hd.toArray⟩]) (grow (redrawn w4 dd) os) := fun dd os => by
          have := run_mget kvK_t Tryz.underlying100 (z := .agg #[.string ⟨#[]⟩]) (by kernel_rfl) (hp_mod hMh (mod_regrown w4 dd os) id) (r : Int) false
          have hp := hPh r
          unfold hadV at hp
          rw [show (mGet (r : Int) Mh).getD (.agg #[.string ⟨#[]⟩]) = .agg #[.string ⟨hd.toArray⟩] by rw [hhd, hls]; exact hp] at this
          exact this
        have hlk2 : ∀ (dd : Nat) (os : Array Obj), (Instr.lookup 101 (.map (some d)) (.string ⟨f1.toArray⟩) false).run Tryz.prog (grow (redrawn w4 dd) os) = .ok (.func (.func g) #[] caps) (grow (redrawn w4 dd) os) := fun dd os => by
          have := run_mget kvS_t Tryz.underlying101 (z := .nilFunc) (by kernel_rfl) (hp_mod (hp_mod HStat.out.mp M4 id) (mod_regrown w4 dd os) id) f1 false
          rw [HMG.out] at this
          exact this
        clear hA hrow hnr hls hs1 hs2 hhd hcl hMh hPh z1 z2 z0 M24 M4 hm3 hm4
        have hfd : ∀ X : World, (Instr.field 109 (.agg #[.string ⟨hd.toArray⟩]) 0).run Tryz.prog X = .ok (.string ⟨hd.toArray⟩) X := fun _ => by kernel_rfl
        have hadd : ∀ X : World, (binOp .add 9 (.string ⟨hd.toArray⟩) (.string ⟨f1.toArray⟩)).run Tryz.prog X = .ok (.string ⟨(hd ++ f1).toArray⟩) X := fun X => by rw [binOp_string_add]; exact run_string_add_lists X hd f1 (by omega) (by omega)
        cases gd
        · have HG := Lib.hid (FB.out (by rw [HPut.out]; simp))
          skip
          refine fw_region_tail (ro := some _) 32 (by kernel_rfl) (by kernel_rfl) (by kernel_rfl) ?_
          simp only [List.take_succ_cons, List.take_zero, List.drop_succ_cons, List.drop_zero]
          repeat (go_big_quiet_step ((first | (go_at_call 49; with_reducible exact regE fun X hX => HSur.out X hX) | (go_at_call 50; with_reducible exact regE fun X hX => HCont.out X hX) | (go_at_call 51; with_reducible exact regM fun X hX => HClash.out X hX) | fail)))
          refine wpQuiet_nil ?_
          intro W1 hW1
          have HQ := mod_of_regrown hW1
          clear hW1
          change wpListIn (Fence.wide.inRound _) _ _ _ _ _ _ _
          have MX := Lib.hid (HM24.out.trans' HQ)
          have f2 := hp_free (hp_mod HE2.out MX.out id) 0
          have f3 := hp_free (hp_mod HE3.out MX.out id) 0
          have c2 := hp_cell (hp_mod HE2.out MX.out id) 0
          have c3 := hp_cell (hp_mod HE3.out MX.out id) 0
          clear HQ
          refine wpListIn_skip (by rfl) (by rfl) ?_
          refine wpListIn_skip (by rfl) (by rfl) ?_
          gi_wp2
          exact FE.out _ (MX.out.mono fun _ _ h => h.elim) HG.out
        cases is
        · have HG := Lib.hid (FB.out (by rw [HPut.out]; simp))
          skip
          refine fw_region_tail (ro := some _) 32 (by kernel_rfl) (by kernel_rfl) (by kernel_rfl) ?_
          simp only [List.take_succ_cons, List.take_zero, List.drop_succ_cons, List.drop_zero]
          repeat (go_big_quiet_step ((first | (go_at_call 49; with_reducible exact regE fun X hX => HSur.out X hX) | (go_at_call 50; with_reducible exact regE fun X hX => HCont.out X hX) | (go_at_call 51; with_reducible exact regM fun X hX => HClash.out X hX) | fail)))
          refine wpQuiet_nil ?_
          intro W1 hW1
          have HQ := mod_of_regrown hW1
          clear hW1
          change wpListIn (Fence.wide.inRound _) _ _ _ _ _ _ _
          have MX := Lib.hid (HM24.out.trans' HQ)
          have f2 := hp_free (hp_mod HE2.out MX.out id) 0
          have f3 := hp_free (hp_mod HE3.out MX.out id) 0
          have c2 := hp_cell (hp_mod HE2.out MX.out id) 0
          have c3 := hp_cell (hp_mod HE3.out MX.out id) 0
          clear HQ
          refine wpListIn_skip (by rfl) (by rfl) ?_
          refine wpListIn_skip (by rfl) (by rfl) ?_
          gi_wp2
          exact FE.out _ (MX.out.mono fun _ _ h => h.elim) HG.out
        cases s1
        · cases s2
          · cases cl
            · have hA4 := HA.out
              have hpos : natI row ≠ [] := by
                have h1 := HV.out.2.2.1
                have h2 := HNR.out.2
                cases hrr : rr with
                | none => rw [hrr] at h1; cases h1
                | some ns =>
                  rw [hrr] at h2
                  have h3 := rowOf_ne (HCR.out.2.symm.trans hrr)
                  rw [h2]
                  simpa [natI] using h3
              obtain ⟨ok, hok⟩ : ∃ ok, ok = lenOk f1 n := ⟨_, rfl⟩
              rw [← hok] at HPut
              have HOk := Lib.hid hok
              clear hok
              have hFM4 : FoldM w4 (B + 1 + 1 + 1 + 1) (B + 1 + 1) (B + 1 + 1 + 1) (fullM hs) (simpM hs) := by
                have := HSt.out.fm; rw [HK.out] at this; exact this.keep HM4.out
              have hS4 := HStat.out.mod HM4.out id id id
              have HFM4 := Lib.hid hFM4
              have HS4 := Lib.hid hS4
              have hcl0 : clashL (hs.map FH.x) ⟨r, f1, row⟩ = false := by
                rw [← HLS.out, ← clash_had HGood.out.alone (x := ⟨r, f1, row⟩) HST.out, ← HS.out.2.2.1]
                exact HS.out.2.2.2.symm
              have HCl := Lib.hid hcl0
              clear hA4 hFM4 hS4 hcl0
              have hcase := st_one HST.out
              rcases hcase with rfl | rfl | rfl | rfl
              · obtain ⟨rfl, rfl⟩ : g = 62 ∧ caps = #[ptrV b1, ptrV b3] := by
                  have := HMG.out
                  have h2 : mGet [67] (stV b1 b3) = some (.func (.func 62) #[] #[ptrV b1, ptrV b3]) := rfl
                  rw [h2] at this
                  injection this with this; injection this with h3 h4 h5; injection h3 with h3
                  exact ⟨h3.symm, h5.symm⟩
                have HCall := Lib.hid (show ∀ X, Mod (fun _ => False) w4 X → Calls Tryz.prog 62 #[.int .i32 (r : Int), .slice A n c, ptrV b1, ptrV b3] X fun e w' => e = .returned (.bool ok) ∧ FoldM w' (B + 1 + 1 + 1 + 1) (B + 1 + 1) (B + 1 + 1 + 1) (fullM (hs ++ [⟨A, c, ⟨r, [67], row⟩⟩])) (simpM (hs ++ [⟨A, c, ⟨r, [67], row⟩⟩])) ∧ Mod (fun b => b = B + 1 + 1 ∨ b = B + 1 + 1 + 1) X w' from fun X hX => by
                  have e1 : mPut (r : Int) (.slice A n c) (fullM hs) = fullM (hs ++ [⟨A, c, ⟨r, [67], row⟩⟩]) := by
                    rw [HNR.out.1]; exact full_put (h := ⟨A, c, ⟨r, [67], row⟩⟩) rfl HCl.out
                  have e2 : mPut (r : Int) (.int .i32 (at_ (natI row) 0)) (simpM hs) = simpM (hs ++ [⟨A, c, ⟨r, [67], row⟩⟩]) := simp_put (h := ⟨A, c, ⟨r, [67], row⟩⟩) rfl HCl.out
                  rw [← e1, ← e2]
                  refine (fst2_any _ _ _ b1 b3 c n _ A r (natI row) _ _ X (HS4.out.mod hX id id id).p1 (HS4.out.mod hX id id id).p3 (HFM4.out.keep hX) (HA.out.mod hX fun b hb => ⟨hb.2, id⟩) (by simp [natI, HNR.out.1]) hpos).mono ?_
                  rintro e w' ⟨h1, h2, h3⟩
                  exact ⟨h1.trans (by rw [HOk.out]; rfl), h2, h3⟩)
                clear hpos
                cases ok
                · have HG := Lib.hid (FB.out (by rw [HPut.out]; simp))
                  refine fw_region_tail (ro := some _) 32 (by kernel_rfl) (by kernel_rfl) (by kernel_rfl) ?_
                  simp only [List.take_succ_cons, List.take_zero, List.drop_succ_cons, List.drop_zero]
                  repeat (go_big_quiet_step ((first | (go_at_call 49; with_reducible exact regE fun X hX => HSur.out X hX) | (go_at_call 50; with_reducible exact regE fun X hX => HCont.out X hX) | (go_at_call 51; with_reducible exact regM fun X hX => HClash.out X hX) | fail)))
                  refine wpQuiet_nil ?_
                  intro W1 hW1
                  have HQ := mod_of_regrown hW1
                  clear hW1
                  change wpListIn (Fence.wide.inRound _) _ _ _ _ _ _ _
                  gi_wp2_with (first
                    | ((refine ⟨trivial, rfl, ?_⟩; gi_at_call 62); refine ci (HCall.out _ HQ) ?_; rintro e w5 ⟨rfl, hfm5, hm5⟩; have MX := Lib.hid (((HM24.out.trans' HQ).mono fun _ _ h => h.elim).trans' hm5); have f2 := hp_free (hp_mod HE2.out MX.out (by omega)) 0; have f3 := hp_free (hp_mod HE3.out MX.out (by omega)) 0; have c2 := hp_cell (hp_mod HE2.out MX.out (by omega)) 0; have c3 := hp_cell (hp_mod HE3.out MX.out (by omega)) 0)
                    | fail)
                  exact FE.out _ MX.out HG.out
                · skip
                  refine fw_region_tail (ro := some _) 32 (by kernel_rfl) (by kernel_rfl) (by kernel_rfl) ?_
                  simp only [List.take_succ_cons, List.take_zero, List.drop_succ_cons, List.drop_zero]
                  repeat (go_big_quiet_step ((first | (go_at_call 49; with_reducible exact regE fun X hX => HSur.out X hX) | (go_at_call 50; with_reducible exact regE fun X hX => HCont.out X hX) | (go_at_call 51; with_reducible exact regM fun X hX => HClash.out X hX) | fail)))
                  refine wpQuiet_nil ?_
                  intro W1 hW1
                  have HQ := mod_of_regrown hW1
                  clear hW1
                  change wpListIn (Fence.wide.inRound _) _ _ _ _ _ _ _
                  gi_wp2_with (first
                    | ((refine ⟨trivial, rfl, ?_⟩; gi_at_call 62); refine ci (HCall.out _ HQ) ?_; rintro e w5 ⟨rfl, hfm5, hm5⟩; have MX := Lib.hid (((HM24.out.trans' HQ).mono fun _ _ h => h.elim).trans' hm5); have HF5 := Lib.hid hfm5)
                    | fail)
                  have hhm : ¬ (B + 1 + 1 + 1 + 1 + 1 = B + 1 + 1 ∨ B + 1 + 1 + 1 + 1 + 1 = B + 1 + 1 + 1) := by omega
                  have nz : ∀ {b i v}, W2.cell? ⟨b, i, none⟩ = some v → ¬ (b = B + 1 + 1 ∨ b = B + 1 + 1 + 1) := fun {b i v} hc hb => by
                    have hc4 := cell_mod hc HM24.out id
                    rcases hb with rfl | rfl
                    · exact cell_ne_map hc4 HFM4.out.h1 rfl
                    · exact cell_ne_map hc4 HFM4.out.h2 rfl
                  have z1 := cell_mod HZ.out.2.1 MX.out (nz HZ.out.2.1)
                  have z5 := cell_mod HEH.out MX.out (nz HEH.out)
                  have q1' := cell_regrown z1
                  have q3' := cell_regrown z5
                  have hM5 := Lib.hid (hp_mod (hp_mod HMh.out.1 HQ id) hm5 hhm)
                  have hlk3 : ∀ (dd : Nat) (os : Array Obj), (Instr.lookup 100 (.map (some (B + 1 + 1 + 1 + 1 + 1))) (.int .i32 (r : Int)) false).run Tryz.prog (grow (redrawn w5 dd) os) = .ok (.agg #[.string ⟨hd.toArray⟩]) (grow (redrawn w5 dd) os) := fun dd os => by
                    have := run_mget kvK_t Tryz.underlying100 (z := .agg #[.string ⟨#[]⟩]) (by kernel_rfl) (hp_mod hM5.out (mod_regrown w5 dd os) id) (r : Int) false
                    have hp := HMh.out.2 r
                    unfold hadV at hp
                    rw [show (mGet (r : Int) Mh).getD (.agg #[.string ⟨#[]⟩]) = .agg #[.string ⟨hd.toArray⟩] by rw [HS.out.2.2.1, HLS.out]; exact hp] at this
                    exact this
                  have HB5 := Lib.hid (And.intro HQ hm5)
                  clear q1 q2 q3 hlk1 hlk2 z1 z5 HQ hm5
                  refine fw_region_tail (ro := some _) 11 (by kernel_rfl) (by kernel_rfl) (by kernel_rfl) ?_
                  simp only [List.take_succ_cons, List.take_zero, List.drop_succ_cons, List.drop_zero]
                  repeat (go_big_quiet_step ((first | (fail) | fail)))
                  refine wpQuiet_nil ?_
                  intro W1 hW1
                  have HQ := mod_of_regrown hW1
                  clear hW1
                  change wpListIn (Fence.wide.inRound _) _ _ _ _ _ _ _
                  refine wpListIn_mput (kv := kvK) rfl _ _ _ 100 (.inl rfl) _ _ kvK_t Tryz.underlying100 rfl (hp_mod hM5.out HQ id) (r : Int) rfl (.agg #[.string ⟨(hd ++ [67]).toArray⟩]) rfl ?_
                  intro w6 hb6 hm6
                  have HB6 := Lib.hid hb6
                  have HM6 := Lib.hid (And.intro HQ hm6)
                  clear hb6 hm6 HQ q1' q3' hlk3
                  gi_wp2
                  have hK := HK.out
                  subst hK
                  have hb6 := HB6.out
                  have hm6 := HM6.out.2
                  have own := HSt.out.own
                  have o1 : B + 1 + 1 < W'.heap.size := (HBB.out _ (own _ (by simp [RdK.base]))).1
                  have o2 : B + 1 + 1 + 1 < W'.heap.size := (HBB.out _ (own _ (by simp [RdK.base]))).1
                  have o3 : B + 1 + 1 + 1 + 1 + 1 < W'.heap.size := (HBB.out _ (own _ (by simp [RdK.base]))).1
                  have p1 : C (B + 1 + 1) := own _ (by simp [RdK.base])
                  have p2 : C (B + 1 + 1 + 1) := own _ (by simp [RdK.base])
                  have p3 : C (B + 1 + 1 + 1 + 1 + 1) := own _ (by simp [RdK.base])
                  have MA : Mod (fun b => b = B + 1 + 1 ∨ b = B + 1 + 1 + 1 ∨ b = B + 1 + 1 + 1 + 1 + 1) w4 w6 :=
                    (((HB5.out.1.mono fun _ _ h => h.elim).trans HB5.out.2 fun b hb => .inl (by omega)).trans HM6.out.1 fun b hb => hb.elim).trans hm6 fun b hb => .inl (by omega)
                  have MM : Mod (fun b => b = B + 1 + 1 ∨ b = B + 1 + 1 + 1 ∨ b = B + 1 + 1 + 1 + 1 + 1) W' w6 := (HM4.out.mono fun _ _ h => h.elim).trans MA fun b hb => .inl hb
                  have fm6 := (HF5.out.keep HM6.out.1).mod hm6 (by omega) (by omega) (by omega)
                  have hP6 : hadP (mPut (r : Int) (.agg #[.string ⟨(hd ++ [67]).toArray⟩]) Mh) (hs.map FH.x ++ [(⟨r, [67], row⟩ : FL)]) := by
                    have := HMh.out.2.put (⟨r, [67], row⟩ : FL)
                    rw [HS.out.2.2.1, HLS.out]
                    exact this
                  have hr6 : Rd (fun b => W'.heap.size ≤ b ∧ b < w6.heap.size) w6 1 csI A (natI row) := by
                    have hw3 := HW3.out
                    refine (HA.out.keep (MA.agree fun b hb => ⟨hb.2, by have := hb.1; omega⟩)).mono fun b hb => ⟨by have := hb.1; omega, Nat.lt_of_lt_of_le hb.2 MA.size⟩
                  exact ⟨_, ⟨hs ++ [⟨A, c, ⟨r, [67], row⟩⟩], HSt.out.step MM (fun b hb => (HBB.out b hb).1) fm6 ⟨_, hb6, by rw [List.map_append]; exact hP6⟩ hr6 HAp.out, by
                      rw [List.map_append]
                      exact read_step HRD.out HX.out (by rw [← HXX.out.1, HPut.out]; rfl)⟩,
                    MM.mono fun b _ hb => by rcases hb with rfl | rfl | rfl; exact p1; exact p2; exact p3,
                    fun b hb => by
                      rcases hb with hb | hb
                      · exact ⟨Nat.lt_of_lt_of_le (HBB.out b hb).1 MM.size, .inl hb⟩
                      · exact ⟨hb.2, .inr hb.1⟩⟩
              · obtain ⟨rfl, rfl⟩ : g = 63 ∧ caps = #[ptrV b1] := by
                  have := HMG.out
                  have h2 : mGet [70] (stV b1 b3) = some (.func (.func 63) #[] #[ptrV b1]) := rfl
                  rw [h2] at this
                  injection this with this; injection this with h3 h4 h5; injection h3 with h3
                  exact ⟨h3.symm, h5.symm⟩
                have HCall := Lib.hid (show ∀ X, Mod (fun _ => False) w4 X → Calls Tryz.prog 63 #[.int .i32 (r : Int), .slice A n c, ptrV b1] X fun e w' => e = .returned (.bool ok) ∧ FoldM w' (B + 1 + 1 + 1 + 1) (B + 1 + 1) (B + 1 + 1 + 1) (fullM (hs ++ [⟨A, c, ⟨r, [70], row⟩⟩])) (simpM (hs ++ [⟨A, c, ⟨r, [70], row⟩⟩])) ∧ Mod (fun b => b = B + 1 + 1 ∨ b = B + 1 + 1 + 1) X w' from fun X hX => by
                  have e1 : mPut (r : Int) (.slice A n c) (fullM hs) = fullM (hs ++ [⟨A, c, ⟨r, [70], row⟩⟩]) := by
                    rw [HNR.out.1]; exact full_put (h := ⟨A, c, ⟨r, [70], row⟩⟩) rfl HCl.out
                  have e2 : simpM hs = simpM (hs ++ [⟨A, c, ⟨r, [70], row⟩⟩]) := simp_same (h := ⟨A, c, ⟨r, [70], row⟩⟩) rfl
                  rw [← e1, ← e2]
                  refine (fst3_any _ _ _ b1 c n A r _ _ X (HS4.out.mod hX id id id).p1 (HFM4.out.keep hX)).mono ?_
                  rintro e w' ⟨h1, h2, h3⟩
                  exact ⟨h1.trans (by rw [HOk.out]; rfl), h2, h3.mono fun _ _ h => .inl h⟩)
                clear hpos
                cases ok
                · have HG := Lib.hid (FB.out (by rw [HPut.out]; simp))
                  refine fw_region_tail (ro := some _) 32 (by kernel_rfl) (by kernel_rfl) (by kernel_rfl) ?_
                  simp only [List.take_succ_cons, List.take_zero, List.drop_succ_cons, List.drop_zero]
                  repeat (go_big_quiet_step ((first | (go_at_call 49; with_reducible exact regE fun X hX => HSur.out X hX) | (go_at_call 50; with_reducible exact regE fun X hX => HCont.out X hX) | (go_at_call 51; with_reducible exact regM fun X hX => HClash.out X hX) | fail)))
                  refine wpQuiet_nil ?_
                  intro W1 hW1
                  have HQ := mod_of_regrown hW1
                  clear hW1
                  change wpListIn (Fence.wide.inRound _) _ _ _ _ _ _ _
                  gi_wp2_with (first
                    | ((refine ⟨trivial, rfl, ?_⟩; gi_at_call 63); refine ci (HCall.out _ HQ) ?_; rintro e w5 ⟨rfl, hfm5, hm5⟩; have MX := Lib.hid (((HM24.out.trans' HQ).mono fun _ _ h => h.elim).trans' hm5); have f2 := hp_free (hp_mod HE2.out MX.out (by omega)) 0; have f3 := hp_free (hp_mod HE3.out MX.out (by omega)) 0; have c2 := hp_cell (hp_mod HE2.out MX.out (by omega)) 0; have c3 := hp_cell (hp_mod HE3.out MX.out (by omega)) 0)
                    | fail)
                  exact FE.out _ MX.out HG.out
                · skip
                  refine fw_region_tail (ro := some _) 32 (by kernel_rfl) (by kernel_rfl) (by kernel_rfl) ?_
                  simp only [List.take_succ_cons, List.take_zero, List.drop_succ_cons, List.drop_zero]
                  repeat (go_big_quiet_step ((first | (go_at_call 49; with_reducible exact regE fun X hX => HSur.out X hX) | (go_at_call 50; with_reducible exact regE fun X hX => HCont.out X hX) | (go_at_call 51; with_reducible exact regM fun X hX => HClash.out X hX) | fail)))
                  refine wpQuiet_nil ?_
                  intro W1 hW1
                  have HQ := mod_of_regrown hW1
                  clear hW1
                  change wpListIn (Fence.wide.inRound _) _ _ _ _ _ _ _
                  gi_wp2_with (first
                    | ((refine ⟨trivial, rfl, ?_⟩; gi_at_call 63); refine ci (HCall.out _ HQ) ?_; rintro e w5 ⟨rfl, hfm5, hm5⟩; have MX := Lib.hid (((HM24.out.trans' HQ).mono fun _ _ h => h.elim).trans' hm5); have HF5 := Lib.hid hfm5)
                    | fail)
                  have hhm : ¬ (B + 1 + 1 + 1 + 1 + 1 = B + 1 + 1 ∨ B + 1 + 1 + 1 + 1 + 1 = B + 1 + 1 + 1) := by omega
                  have nz : ∀ {b i v}, W2.cell? ⟨b, i, none⟩ = some v → ¬ (b = B + 1 + 1 ∨ b = B + 1 + 1 + 1) := fun {b i v} hc hb => by
                    have hc4 := cell_mod hc HM24.out id
                    rcases hb with rfl | rfl
                    · exact cell_ne_map hc4 HFM4.out.h1 rfl
                    · exact cell_ne_map hc4 HFM4.out.h2 rfl
                  have z1 := cell_mod HZ.out.2.1 MX.out (nz HZ.out.2.1)
                  have z5 := cell_mod HEH.out MX.out (nz HEH.out)
                  have q1' := cell_regrown z1
                  have q3' := cell_regrown z5
                  have hM5 := Lib.hid (hp_mod (hp_mod HMh.out.1 HQ id) hm5 hhm)
                  have hlk3 : ∀ (dd : Nat) (os : Array Obj), (Instr.lookup 100 (.map (some (B + 1 + 1 + 1 + 1 + 1))) (.int .i32 (r : Int)) false).run Tryz.prog (grow (redrawn w5 dd) os) = .ok (.agg #[.string ⟨hd.toArray⟩]) (grow (redrawn w5 dd) os) := fun dd os => by
                    have := run_mget kvK_t Tryz.underlying100 (z := .agg #[.string ⟨#[]⟩]) (by kernel_rfl) (hp_mod hM5.out (mod_regrown w5 dd os) id) (r : Int) false
                    have hp := HMh.out.2 r
                    unfold hadV at hp
                    rw [show (mGet (r : Int) Mh).getD (.agg #[.string ⟨#[]⟩]) = .agg #[.string ⟨hd.toArray⟩] by rw [HS.out.2.2.1, HLS.out]; exact hp] at this
                    exact this
                  have HB5 := Lib.hid (And.intro HQ hm5)
                  clear q1 q2 q3 hlk1 hlk2 z1 z5 HQ hm5
                  refine fw_region_tail (ro := some _) 11 (by kernel_rfl) (by kernel_rfl) (by kernel_rfl) ?_
                  simp only [List.take_succ_cons, List.take_zero, List.drop_succ_cons, List.drop_zero]
                  repeat (go_big_quiet_step ((first | (fail) | fail)))
                  refine wpQuiet_nil ?_
                  intro W1 hW1
                  have HQ := mod_of_regrown hW1
                  clear hW1
                  change wpListIn (Fence.wide.inRound _) _ _ _ _ _ _ _
                  refine wpListIn_mput (kv := kvK) rfl _ _ _ 100 (.inl rfl) _ _ kvK_t Tryz.underlying100 rfl (hp_mod hM5.out HQ id) (r : Int) rfl (.agg #[.string ⟨(hd ++ [70]).toArray⟩]) rfl ?_
                  intro w6 hb6 hm6
                  have HB6 := Lib.hid hb6
                  have HM6 := Lib.hid (And.intro HQ hm6)
                  clear hb6 hm6 HQ q1' q3' hlk3
                  gi_wp2
                  have hK := HK.out
                  subst hK
                  have hb6 := HB6.out
                  have hm6 := HM6.out.2
                  have own := HSt.out.own
                  have o1 : B + 1 + 1 < W'.heap.size := (HBB.out _ (own _ (by simp [RdK.base]))).1
                  have o2 : B + 1 + 1 + 1 < W'.heap.size := (HBB.out _ (own _ (by simp [RdK.base]))).1
                  have o3 : B + 1 + 1 + 1 + 1 + 1 < W'.heap.size := (HBB.out _ (own _ (by simp [RdK.base]))).1
                  have p1 : C (B + 1 + 1) := own _ (by simp [RdK.base])
                  have p2 : C (B + 1 + 1 + 1) := own _ (by simp [RdK.base])
                  have p3 : C (B + 1 + 1 + 1 + 1 + 1) := own _ (by simp [RdK.base])
                  have MA : Mod (fun b => b = B + 1 + 1 ∨ b = B + 1 + 1 + 1 ∨ b = B + 1 + 1 + 1 + 1 + 1) w4 w6 :=
                    (((HB5.out.1.mono fun _ _ h => h.elim).trans HB5.out.2 fun b hb => .inl (by omega)).trans HM6.out.1 fun b hb => hb.elim).trans hm6 fun b hb => .inl (by omega)
                  have MM : Mod (fun b => b = B + 1 + 1 ∨ b = B + 1 + 1 + 1 ∨ b = B + 1 + 1 + 1 + 1 + 1) W' w6 := (HM4.out.mono fun _ _ h => h.elim).trans MA fun b hb => .inl hb
                  have fm6 := (HF5.out.keep HM6.out.1).mod hm6 (by omega) (by omega) (by omega)
                  have hP6 : hadP (mPut (r : Int) (.agg #[.string ⟨(hd ++ [70]).toArray⟩]) Mh) (hs.map FH.x ++ [(⟨r, [70], row⟩ : FL)]) := by
                    have := HMh.out.2.put (⟨r, [70], row⟩ : FL)
                    rw [HS.out.2.2.1, HLS.out]
                    exact this
                  have hr6 : Rd (fun b => W'.heap.size ≤ b ∧ b < w6.heap.size) w6 1 csI A (natI row) := by
                    have hw3 := HW3.out
                    refine (HA.out.keep (MA.agree fun b hb => ⟨hb.2, by have := hb.1; omega⟩)).mono fun b hb => ⟨by have := hb.1; omega, Nat.lt_of_lt_of_le hb.2 MA.size⟩
                  exact ⟨_, ⟨hs ++ [⟨A, c, ⟨r, [70], row⟩⟩], HSt.out.step MM (fun b hb => (HBB.out b hb).1) fm6 ⟨_, hb6, by rw [List.map_append]; exact hP6⟩ hr6 HAp.out, by
                      rw [List.map_append]
                      exact read_step HRD.out HX.out (by rw [← HXX.out.1, HPut.out]; rfl)⟩,
                    MM.mono fun b _ hb => by rcases hb with rfl | rfl | rfl; exact p1; exact p2; exact p3,
                    fun b hb => by
                      rcases hb with hb | hb
                      · exact ⟨Nat.lt_of_lt_of_le (HBB.out b hb).1 MM.size, .inl hb⟩
                      · exact ⟨hb.2, .inr hb.1⟩⟩
              · obtain ⟨rfl, rfl⟩ : g = 64 ∧ caps = #[ptrV b1, ptrV b3] := by
                  have := HMG.out
                  have h2 : mGet [83] (stV b1 b3) = some (.func (.func 64) #[] #[ptrV b1, ptrV b3]) := rfl
                  rw [h2] at this
                  injection this with this; injection this with h3 h4 h5; injection h3 with h3
                  exact ⟨h3.symm, h5.symm⟩
                have HCall := Lib.hid (show ∀ X, Mod (fun _ => False) w4 X → Calls Tryz.prog 64 #[.int .i32 (r : Int), .slice A n c, ptrV b1, ptrV b3] X fun e w' => e = .returned (.bool ok) ∧ FoldM w' (B + 1 + 1 + 1 + 1) (B + 1 + 1) (B + 1 + 1 + 1) (fullM (hs ++ [⟨A, c, ⟨r, [83], row⟩⟩])) (simpM (hs ++ [⟨A, c, ⟨r, [83], row⟩⟩])) ∧ Mod (fun b => b = B + 1 + 1 ∨ b = B + 1 + 1 + 1) X w' from fun X hX => by
                  have e1 : fullM hs = fullM (hs ++ [⟨A, c, ⟨r, [83], row⟩⟩]) := full_same (h := ⟨A, c, ⟨r, [83], row⟩⟩) rfl
                  have e2 : mPut (r : Int) (.int .i32 (at_ (natI row) 0)) (simpM hs) = simpM (hs ++ [⟨A, c, ⟨r, [83], row⟩⟩]) := simp_put (h := ⟨A, c, ⟨r, [83], row⟩⟩) rfl HCl.out
                  rw [← e1, ← e2]
                  refine (fst4_any _ _ _ b1 b3 c n _ A r (natI row) _ _ X (HS4.out.mod hX id id id).p1 (HS4.out.mod hX id id id).p3 (HFM4.out.keep hX) (HA.out.mod hX fun b hb => ⟨hb.2, id⟩) (by simp [natI, HNR.out.1]) hpos).mono ?_
                  rintro e w' ⟨h1, h2, h3⟩
                  exact ⟨h1.trans (by rw [HOk.out]; rfl), h2, h3.mono fun _ _ h => .inr h⟩)
                clear hpos
                cases ok
                · have HG := Lib.hid (FB.out (by rw [HPut.out]; simp))
                  refine fw_region_tail (ro := some _) 32 (by kernel_rfl) (by kernel_rfl) (by kernel_rfl) ?_
                  simp only [List.take_succ_cons, List.take_zero, List.drop_succ_cons, List.drop_zero]
                  repeat (go_big_quiet_step ((first | (go_at_call 49; with_reducible exact regE fun X hX => HSur.out X hX) | (go_at_call 50; with_reducible exact regE fun X hX => HCont.out X hX) | (go_at_call 51; with_reducible exact regM fun X hX => HClash.out X hX) | fail)))
                  refine wpQuiet_nil ?_
                  intro W1 hW1
                  have HQ := mod_of_regrown hW1
                  clear hW1
                  change wpListIn (Fence.wide.inRound _) _ _ _ _ _ _ _
                  gi_wp2_with (first
                    | ((refine ⟨trivial, rfl, ?_⟩; gi_at_call 64); refine ci (HCall.out _ HQ) ?_; rintro e w5 ⟨rfl, hfm5, hm5⟩; have MX := Lib.hid (((HM24.out.trans' HQ).mono fun _ _ h => h.elim).trans' hm5); have f2 := hp_free (hp_mod HE2.out MX.out (by omega)) 0; have f3 := hp_free (hp_mod HE3.out MX.out (by omega)) 0; have c2 := hp_cell (hp_mod HE2.out MX.out (by omega)) 0; have c3 := hp_cell (hp_mod HE3.out MX.out (by omega)) 0)
                    | fail)
                  exact FE.out _ MX.out HG.out
                · skip
                  refine fw_region_tail (ro := some _) 32 (by kernel_rfl) (by kernel_rfl) (by kernel_rfl) ?_
                  simp only [List.take_succ_cons, List.take_zero, List.drop_succ_cons, List.drop_zero]
                  repeat (go_big_quiet_step ((first | (go_at_call 49; with_reducible exact regE fun X hX => HSur.out X hX) | (go_at_call 50; with_reducible exact regE fun X hX => HCont.out X hX) | (go_at_call 51; with_reducible exact regM fun X hX => HClash.out X hX) | fail)))
                  refine wpQuiet_nil ?_
                  intro W1 hW1
                  have HQ := mod_of_regrown hW1
                  clear hW1
                  change wpListIn (Fence.wide.inRound _) _ _ _ _ _ _ _
                  gi_wp2_with (first
                    | ((refine ⟨trivial, rfl, ?_⟩; gi_at_call 64); refine ci (HCall.out _ HQ) ?_; rintro e w5 ⟨rfl, hfm5, hm5⟩; have MX := Lib.hid (((HM24.out.trans' HQ).mono fun _ _ h => h.elim).trans' hm5); have HF5 := Lib.hid hfm5)
                    | fail)
                  have hhm : ¬ (B + 1 + 1 + 1 + 1 + 1 = B + 1 + 1 ∨ B + 1 + 1 + 1 + 1 + 1 = B + 1 + 1 + 1) := by omega
                  have nz : ∀ {b i v}, W2.cell? ⟨b, i, none⟩ = some v → ¬ (b = B + 1 + 1 ∨ b = B + 1 + 1 + 1) := fun {b i v} hc hb => by
                    have hc4 := cell_mod hc HM24.out id
                    rcases hb with rfl | rfl
                    · exact cell_ne_map hc4 HFM4.out.h1 rfl
                    · exact cell_ne_map hc4 HFM4.out.h2 rfl
                  have z1 := cell_mod HZ.out.2.1 MX.out (nz HZ.out.2.1)
                  have z5 := cell_mod HEH.out MX.out (nz HEH.out)
                  have q1' := cell_regrown z1
                  have q3' := cell_regrown z5
                  have hM5 := Lib.hid (hp_mod (hp_mod HMh.out.1 HQ id) hm5 hhm)
                  have hlk3 : ∀ (dd : Nat) (os : Array Obj), (Instr.lookup 100 (.map (some (B + 1 + 1 + 1 + 1 + 1))) (.int .i32 (r : Int)) false).run Tryz.prog (grow (redrawn w5 dd) os) = .ok (.agg #[.string ⟨hd.toArray⟩]) (grow (redrawn w5 dd) os) := fun dd os => by
                    have := run_mget kvK_t Tryz.underlying100 (z := .agg #[.string ⟨#[]⟩]) (by kernel_rfl) (hp_mod hM5.out (mod_regrown w5 dd os) id) (r : Int) false
                    have hp := HMh.out.2 r
                    unfold hadV at hp
                    rw [show (mGet (r : Int) Mh).getD (.agg #[.string ⟨#[]⟩]) = .agg #[.string ⟨hd.toArray⟩] by rw [HS.out.2.2.1, HLS.out]; exact hp] at this
                    exact this
                  have HB5 := Lib.hid (And.intro HQ hm5)
                  clear q1 q2 q3 hlk1 hlk2 z1 z5 HQ hm5
                  refine fw_region_tail (ro := some _) 11 (by kernel_rfl) (by kernel_rfl) (by kernel_rfl) ?_
                  simp only [List.take_succ_cons, List.take_zero, List.drop_succ_cons, List.drop_zero]
                  repeat (go_big_quiet_step ((first | (fail) | fail)))
                  refine wpQuiet_nil ?_
                  intro W1 hW1
                  have HQ := mod_of_regrown hW1
                  clear hW1
                  change wpListIn (Fence.wide.inRound _) _ _ _ _ _ _ _
                  refine wpListIn_mput (kv := kvK) rfl _ _ _ 100 (.inl rfl) _ _ kvK_t Tryz.underlying100 rfl (hp_mod hM5.out HQ id) (r : Int) rfl (.agg #[.string ⟨(hd ++ [83]).toArray⟩]) rfl ?_
                  intro w6 hb6 hm6
                  have HB6 := Lib.hid hb6
                  have HM6 := Lib.hid (And.intro HQ hm6)
                  clear hb6 hm6 HQ q1' q3' hlk3
                  gi_wp2
                  have hK := HK.out
                  subst hK
                  have hb6 := HB6.out
                  have hm6 := HM6.out.2
                  have own := HSt.out.own
                  have o1 : B + 1 + 1 < W'.heap.size := (HBB.out _ (own _ (by simp [RdK.base]))).1
                  have o2 : B + 1 + 1 + 1 < W'.heap.size := (HBB.out _ (own _ (by simp [RdK.base]))).1
                  have o3 : B + 1 + 1 + 1 + 1 + 1 < W'.heap.size := (HBB.out _ (own _ (by simp [RdK.base]))).1
                  have p1 : C (B + 1 + 1) := own _ (by simp [RdK.base])
                  have p2 : C (B + 1 + 1 + 1) := own _ (by simp [RdK.base])
                  have p3 : C (B + 1 + 1 + 1 + 1 + 1) := own _ (by simp [RdK.base])
                  have MA : Mod (fun b => b = B + 1 + 1 ∨ b = B + 1 + 1 + 1 ∨ b = B + 1 + 1 + 1 + 1 + 1) w4 w6 :=
                    (((HB5.out.1.mono fun _ _ h => h.elim).trans HB5.out.2 fun b hb => .inl (by omega)).trans HM6.out.1 fun b hb => hb.elim).trans hm6 fun b hb => .inl (by omega)
                  have MM : Mod (fun b => b = B + 1 + 1 ∨ b = B + 1 + 1 + 1 ∨ b = B + 1 + 1 + 1 + 1 + 1) W' w6 := (HM4.out.mono fun _ _ h => h.elim).trans MA fun b hb => .inl hb
                  have fm6 := (HF5.out.keep HM6.out.1).mod hm6 (by omega) (by omega) (by omega)
                  have hP6 : hadP (mPut (r : Int) (.agg #[.string ⟨(hd ++ [83]).toArray⟩]) Mh) (hs.map FH.x ++ [(⟨r, [83], row⟩ : FL)]) := by
                    have := HMh.out.2.put (⟨r, [83], row⟩ : FL)
                    rw [HS.out.2.2.1, HLS.out]
                    exact this
                  have hr6 : Rd (fun b => W'.heap.size ≤ b ∧ b < w6.heap.size) w6 1 csI A (natI row) := by
                    have hw3 := HW3.out
                    refine (HA.out.keep (MA.agree fun b hb => ⟨hb.2, by have := hb.1; omega⟩)).mono fun b hb => ⟨by have := hb.1; omega, Nat.lt_of_lt_of_le hb.2 MA.size⟩
                  exact ⟨_, ⟨hs ++ [⟨A, c, ⟨r, [83], row⟩⟩], HSt.out.step MM (fun b hb => (HBB.out b hb).1) fm6 ⟨_, hb6, by rw [List.map_append]; exact hP6⟩ hr6 HAp.out, by
                      rw [List.map_append]
                      exact read_step HRD.out HX.out (by rw [← HXX.out.1, HPut.out]; rfl)⟩,
                    MM.mono fun b _ hb => by rcases hb with rfl | rfl | rfl; exact p1; exact p2; exact p3,
                    fun b hb => by
                      rcases hb with hb | hb
                      · exact ⟨Nat.lt_of_lt_of_le (HBB.out b hb).1 MM.size, .inl hb⟩
                      · exact ⟨hb.2, .inr hb.1⟩⟩
              · obtain ⟨rfl, rfl⟩ : g = 65 ∧ caps = #[ptrV b3] := by
                  have := HMG.out
                  have h2 : mGet [84] (stV b1 b3) = some (.func (.func 65) #[] #[ptrV b3]) := rfl
                  rw [h2] at this
                  injection this with this; injection this with h3 h4 h5; injection h3 with h3
                  exact ⟨h3.symm, h5.symm⟩
                have HCall := Lib.hid (show ∀ X, Mod (fun _ => False) w4 X → Calls Tryz.prog 65 #[.int .i32 (r : Int), .slice A n c, ptrV b3] X fun e w' => e = .returned (.bool ok) ∧ FoldM w' (B + 1 + 1 + 1 + 1) (B + 1 + 1) (B + 1 + 1 + 1) (fullM (hs ++ [⟨A, c, ⟨r, [84], row⟩⟩])) (simpM (hs ++ [⟨A, c, ⟨r, [84], row⟩⟩])) ∧ Mod (fun b => b = B + 1 + 1 ∨ b = B + 1 + 1 + 1) X w' from fun X hX => by
                  have e1 : fullM hs = fullM (hs ++ [⟨A, c, ⟨r, [84], row⟩⟩]) := full_same (h := ⟨A, c, ⟨r, [84], row⟩⟩) rfl
                  have e2 : simpM hs = simpM (hs ++ [⟨A, c, ⟨r, [84], row⟩⟩]) := simp_same (h := ⟨A, c, ⟨r, [84], row⟩⟩) rfl
                  rw [← e1, ← e2]
                  refine (fst5_any b3 c n A r X (HS4.out.mod hX id id id).p3).mono ?_
                  rintro e w' ⟨h1, rfl⟩
                  exact ⟨h1.trans (by rw [HOk.out]; rfl), HFM4.out.keep hX, Mod.refl _ _⟩)
                clear hpos
                cases ok
                · have HG := Lib.hid (FB.out (by rw [HPut.out]; simp))
                  refine fw_region_tail (ro := some _) 32 (by kernel_rfl) (by kernel_rfl) (by kernel_rfl) ?_
                  simp only [List.take_succ_cons, List.take_zero, List.drop_succ_cons, List.drop_zero]
                  repeat (go_big_quiet_step ((first | (go_at_call 49; with_reducible exact regE fun X hX => HSur.out X hX) | (go_at_call 50; with_reducible exact regE fun X hX => HCont.out X hX) | (go_at_call 51; with_reducible exact regM fun X hX => HClash.out X hX) | fail)))
                  refine wpQuiet_nil ?_
                  intro W1 hW1
                  have HQ := mod_of_regrown hW1
                  clear hW1
                  change wpListIn (Fence.wide.inRound _) _ _ _ _ _ _ _
                  gi_wp2_with (first
                    | ((refine ⟨trivial, rfl, ?_⟩; gi_at_call 65); refine ci (HCall.out _ HQ) ?_; rintro e w5 ⟨rfl, hfm5, hm5⟩; have MX := Lib.hid (((HM24.out.trans' HQ).mono fun _ _ h => h.elim).trans' hm5); have f2 := hp_free (hp_mod HE2.out MX.out (by omega)) 0; have f3 := hp_free (hp_mod HE3.out MX.out (by omega)) 0; have c2 := hp_cell (hp_mod HE2.out MX.out (by omega)) 0; have c3 := hp_cell (hp_mod HE3.out MX.out (by omega)) 0)
                    | fail)
                  exact FE.out _ MX.out HG.out
                · skip
                  refine fw_region_tail (ro := some _) 32 (by kernel_rfl) (by kernel_rfl) (by kernel_rfl) ?_
                  simp only [List.take_succ_cons, List.take_zero, List.drop_succ_cons, List.drop_zero]
                  repeat (go_big_quiet_step ((first | (go_at_call 49; with_reducible exact regE fun X hX => HSur.out X hX) | (go_at_call 50; with_reducible exact regE fun X hX => HCont.out X hX) | (go_at_call 51; with_reducible exact regM fun X hX => HClash.out X hX) | fail)))
                  refine wpQuiet_nil ?_
                  intro W1 hW1
                  have HQ := mod_of_regrown hW1
                  clear hW1
                  change wpListIn (Fence.wide.inRound _) _ _ _ _ _ _ _
                  gi_wp2_with (first
                    | ((refine ⟨trivial, rfl, ?_⟩; gi_at_call 65); refine ci (HCall.out _ HQ) ?_; rintro e w5 ⟨rfl, hfm5, hm5⟩; have MX := Lib.hid (((HM24.out.trans' HQ).mono fun _ _ h => h.elim).trans' hm5); have HF5 := Lib.hid hfm5)
                    | fail)
                  have hhm : ¬ (B + 1 + 1 + 1 + 1 + 1 = B + 1 + 1 ∨ B + 1 + 1 + 1 + 1 + 1 = B + 1 + 1 + 1) := by omega
                  have nz : ∀ {b i v}, W2.cell? ⟨b, i, none⟩ = some v → ¬ (b = B + 1 + 1 ∨ b = B + 1 + 1 + 1) := fun {b i v} hc hb => by
                    have hc4 := cell_mod hc HM24.out id
                    rcases hb with rfl | rfl
                    · exact cell_ne_map hc4 HFM4.out.h1 rfl
                    · exact cell_ne_map hc4 HFM4.out.h2 rfl
                  have z1 := cell_mod HZ.out.2.1 MX.out (nz HZ.out.2.1)
                  have z5 := cell_mod HEH.out MX.out (nz HEH.out)
                  have q1' := cell_regrown z1
                  have q3' := cell_regrown z5
                  have hM5 := Lib.hid (hp_mod (hp_mod HMh.out.1 HQ id) hm5 hhm)
                  have hlk3 : ∀ (dd : Nat) (os : Array Obj), (Instr.lookup 100 (.map (some (B + 1 + 1 + 1 + 1 + 1))) (.int .i32 (r : Int)) false).run Tryz.prog (grow (redrawn w5 dd) os) = .ok (.agg #[.string ⟨hd.toArray⟩]) (grow (redrawn w5 dd) os) := fun dd os => by
                    have := run_mget kvK_t Tryz.underlying100 (z := .agg #[.string ⟨#[]⟩]) (by kernel_rfl) (hp_mod hM5.out (mod_regrown w5 dd os) id) (r : Int) false
                    have hp := HMh.out.2 r
                    unfold hadV at hp
                    rw [show (mGet (r : Int) Mh).getD (.agg #[.string ⟨#[]⟩]) = .agg #[.string ⟨hd.toArray⟩] by rw [HS.out.2.2.1, HLS.out]; exact hp] at this
                    exact this
                  have HB5 := Lib.hid (And.intro HQ hm5)
                  clear q1 q2 q3 hlk1 hlk2 z1 z5 HQ hm5
                  refine fw_region_tail (ro := some _) 11 (by kernel_rfl) (by kernel_rfl) (by kernel_rfl) ?_
                  simp only [List.take_succ_cons, List.take_zero, List.drop_succ_cons, List.drop_zero]
                  repeat (go_big_quiet_step ((first | (fail) | fail)))
                  refine wpQuiet_nil ?_
                  intro W1 hW1
                  have HQ := mod_of_regrown hW1
                  clear hW1
                  change wpListIn (Fence.wide.inRound _) _ _ _ _ _ _ _
                  refine wpListIn_mput (kv := kvK) rfl _ _ _ 100 (.inl rfl) _ _ kvK_t Tryz.underlying100 rfl (hp_mod hM5.out HQ id) (r : Int) rfl (.agg #[.string ⟨(hd ++ [84]).toArray⟩]) rfl ?_
                  intro w6 hb6 hm6
                  have HB6 := Lib.hid hb6
                  have HM6 := Lib.hid (And.intro HQ hm6)
                  clear hb6 hm6 HQ q1' q3' hlk3
                  gi_wp2
                  have hK := HK.out
                  subst hK
                  have hb6 := HB6.out
                  have hm6 := HM6.out.2
                  have own := HSt.out.own
                  have o1 : B + 1 + 1 < W'.heap.size := (HBB.out _ (own _ (by simp [RdK.base]))).1
                  have o2 : B + 1 + 1 + 1 < W'.heap.size := (HBB.out _ (own _ (by simp [RdK.base]))).1
                  have o3 : B + 1 + 1 + 1 + 1 + 1 < W'.heap.size := (HBB.out _ (own _ (by simp [RdK.base]))).1
                  have p1 : C (B + 1 + 1) := own _ (by simp [RdK.base])
                  have p2 : C (B + 1 + 1 + 1) := own _ (by simp [RdK.base])
                  have p3 : C (B + 1 + 1 + 1 + 1 + 1) := own _ (by simp [RdK.base])
                  have MA : Mod (fun b => b = B + 1 + 1 ∨ b = B + 1 + 1 + 1 ∨ b = B + 1 + 1 + 1 + 1 + 1) w4 w6 :=
                    (((HB5.out.1.mono fun _ _ h => h.elim).trans HB5.out.2 fun b hb => .inl (by omega)).trans HM6.out.1 fun b hb => hb.elim).trans hm6 fun b hb => .inl (by omega)
                  have MM : Mod (fun b => b = B + 1 + 1 ∨ b = B + 1 + 1 + 1 ∨ b = B + 1 + 1 + 1 + 1 + 1) W' w6 := (HM4.out.mono fun _ _ h => h.elim).trans MA fun b hb => .inl hb
                  have fm6 := (HF5.out.keep HM6.out.1).mod hm6 (by omega) (by omega) (by omega)
                  have hP6 : hadP (mPut (r : Int) (.agg #[.string ⟨(hd ++ [84]).toArray⟩]) Mh) (hs.map FH.x ++ [(⟨r, [84], row⟩ : FL)]) := by
                    have := HMh.out.2.put (⟨r, [84], row⟩ : FL)
                    rw [HS.out.2.2.1, HLS.out]
                    exact this
                  have hr6 : Rd (fun b => W'.heap.size ≤ b ∧ b < w6.heap.size) w6 1 csI A (natI row) := by
                    have hw3 := HW3.out
                    refine (HA.out.keep (MA.agree fun b hb => ⟨hb.2, by have := hb.1; omega⟩)).mono fun b hb => ⟨by have := hb.1; omega, Nat.lt_of_lt_of_le hb.2 MA.size⟩
                  exact ⟨_, ⟨hs ++ [⟨A, c, ⟨r, [84], row⟩⟩], HSt.out.step MM (fun b hb => (HBB.out b hb).1) fm6 ⟨_, hb6, by rw [List.map_append]; exact hP6⟩ hr6 HAp.out, by
                      rw [List.map_append]
                      exact read_step HRD.out HX.out (by rw [← HXX.out.1, HPut.out]; rfl)⟩,
                    MM.mono fun b _ hb => by rcases hb with rfl | rfl | rfl; exact p1; exact p2; exact p3,
                    fun b hb => by
                      rcases hb with hb | hb
                      · exact ⟨Nat.lt_of_lt_of_le (HBB.out b hb).1 MM.size, .inl hb⟩
                      · exact ⟨hb.2, .inr hb.1⟩⟩
            · have HG := Lib.hid (FB.out (by rw [HPut.out]; simp))
              skip
              refine fw_region_tail (ro := some _) 32 (by kernel_rfl) (by kernel_rfl) (by kernel_rfl) ?_
              simp only [List.take_succ_cons, List.take_zero, List.drop_succ_cons, List.drop_zero]
              repeat (go_big_quiet_step ((first | (go_at_call 49; with_reducible exact regE fun X hX => HSur.out X hX) | (go_at_call 50; with_reducible exact regE fun X hX => HCont.out X hX) | (go_at_call 51; with_reducible exact regM fun X hX => HClash.out X hX) | fail)))
              refine wpQuiet_nil ?_
              intro W1 hW1
              have HQ := mod_of_regrown hW1
              clear hW1
              change wpListIn (Fence.wide.inRound _) _ _ _ _ _ _ _
              have MX := Lib.hid (HM24.out.trans' HQ)
              have f2 := hp_free (hp_mod HE2.out MX.out id) 0
              have f3 := hp_free (hp_mod HE3.out MX.out id) 0
              have c2 := hp_cell (hp_mod HE2.out MX.out id) 0
              have c3 := hp_cell (hp_mod HE3.out MX.out id) 0
              clear HQ
              refine wpListIn_skip (by rfl) (by rfl) ?_
              refine wpListIn_skip (by rfl) (by rfl) ?_
              gi_wp2
              exact FE.out _ (MX.out.mono fun _ _ h => h.elim) HG.out
          · have HG := Lib.hid (FB.out (by rw [HPut.out]; simp))
            skip
            refine fw_region_tail (ro := some _) 32 (by kernel_rfl) (by kernel_rfl) (by kernel_rfl) ?_
            simp only [List.take_succ_cons, List.take_zero, List.drop_succ_cons, List.drop_zero]
            repeat (go_big_quiet_step ((first | (go_at_call 49; with_reducible exact regE fun X hX => HSur.out X hX) | (go_at_call 50; with_reducible exact regE fun X hX => HCont.out X hX) | (go_at_call 51; with_reducible exact regM fun X hX => HClash.out X hX) | fail)))
            refine wpQuiet_nil ?_
            intro W1 hW1
            have HQ := mod_of_regrown hW1
            clear hW1
            change wpListIn (Fence.wide.inRound _) _ _ _ _ _ _ _
            have MX := Lib.hid (HM24.out.trans' HQ)
            have f2 := hp_free (hp_mod HE2.out MX.out id) 0
            have f3 := hp_free (hp_mod HE3.out MX.out id) 0
            have c2 := hp_cell (hp_mod HE2.out MX.out id) 0
            have c3 := hp_cell (hp_mod HE3.out MX.out id) 0
            clear HQ
            refine wpListIn_skip (by rfl) (by rfl) ?_
            refine wpListIn_skip (by rfl) (by rfl) ?_
            gi_wp2
            exact FE.out _ (MX.out.mono fun _ _ h => h.elim) HG.out
        · have HG := Lib.hid (FB.out (by rw [HPut.out]; simp))
          skip
          refine fw_region_tail (ro := some _) 32 (by kernel_rfl) (by kernel_rfl) (by kernel_rfl) ?_
          simp only [List.take_succ_cons, List.take_zero, List.drop_succ_cons, List.drop_zero]
          repeat (go_big_quiet_step ((first | (go_at_call 49; with_reducible exact regE fun X hX => HSur.out X hX) | (go_at_call 50; with_reducible exact regE fun X hX => HCont.out X hX) | (go_at_call 51; with_reducible exact regM fun X hX => HClash.out X hX) | fail)))
          refine wpQuiet_nil ?_
          intro W1 hW1
          have HQ := mod_of_regrown hW1
          clear hW1
          change wpListIn (Fence.wide.inRound _) _ _ _ _ _ _ _
          have MX := Lib.hid (HM24.out.trans' HQ)
          have f2 := hp_free (hp_mod HE2.out MX.out id) 0
          have f3 := hp_free (hp_mod HE3.out MX.out id) 0
          have c2 := hp_cell (hp_mod HE2.out MX.out id) 0
          have c3 := hp_cell (hp_mod HE3.out MX.out id) 0
          clear HQ
          refine wpListIn_skip (by rfl) (by rfl) ?_
          refine wpListIn_skip (by rfl) (by rfl) ?_
          gi_wp2
          exact FE.out _ (MX.out.mono fun _ _ h => h.elim) HG.out
      · have hmg : mGet f1 (stV b1 b3) = none := st_none (by simpa using hst)
        rw [hmg] at hlk
        have hlk : ∀ (dd : Nat) (os : Array Obj), (Instr.lookup 101 (.map (some d)) (.string ⟨f1.toArray⟩) false).run Tryz.prog (grow (redrawn W2 dd) os) = .ok .nilFunc (grow (redrawn W2 dd) os) := hlk
        have hnl := fun X => run_eql_nilfunc_nil (P := Tryz.prog) X Tryz.underlying98
        have HG := Lib.hid (FB.out (by
          unfold putL
          rw [HFF.out]
          have hf1 : stIs f1 = false := by simpa using hst
          cases h0 : codeOf f0 with
          | none => simp [lineFL, h0]
          | some r =>
            cases h2 : rowOf f2 with
            | none => simp [lineFL, h0, h2]
            | some row => simp [lineFL, h0, h2, mayL, aloneL, hf1]))
        clear hmg
        refine fw_region_below (ro := some _) (by kernel_rfl) (by kernel_rfl) (by kernel_rfl) ?_
        repeat (go_big_quiet_step ((first | (fail) | fail)))
        refine wpQuiet_nil ?_
        intro W1 hW1
        have HQ := mod_of_regrown hW1
        clear hW1
        have f2 := hp_free (hp_mod HE2.out HQ id) 0
        have f3 := hp_free (hp_mod HE3.out HQ id) 0
        have c2 := hp_cell (hp_mod HE2.out HQ id) 0
        have c3 := hp_cell (hp_mod HE3.out HQ id) 0
        have HQ' := Lib.hid HQ
        clear HQ
        gi_wp2
        exact FE.out _ (HQ'.out.mono fun _ _ h => h.elim) HG.out
  case done =>
    rintro W' C' ⟨hs, hR', hrd⟩ - hm' hb' hK' hn'
    rw [hsz] at hK' hn' ⊢
    have e2 : W'.heap[B]? = some (.cells #[.pointer none] 24 (0, 0)) := by subst hK; exact hR'.r2
    have e3 : W'.heap[B + 1]? = some (.cells #[.nilIface] 43 (0, 0)) := by subst hK; exact hR'.r3
    have hfm : FoldM W' (B + 1 + 1 + 1 + 1) (B + 1 + 1) (B + 1 + 1 + 1) (fullM hs) (simpM hs) := by subst hK; exact hR'.fm
    have hls : foldT l = .inl (hs.map FH.x) := by
      rw [← HRd.out, ← hrd]
      congr 1
      exact (List.take_length).symm
    have HLS := Lib.hid hls
    clear hls
    have c2 := hp_cell e2 0
    have c3 := hp_cell e3 0
    have f2 := hp_free e2 0
    have f3 := hp_free e3 0
    have HE2 := Lib.hid e2
    have HE3 := Lib.hid e3
    have HFM := Lib.hid hfm
    have HRows := Lib.hid hR'.rows
    have HK' := Lib.hid hK'
    have HNS := Lib.hid hn'
    have Hm' := Lib.hid hm'
    have Hb' := Lib.hid hb'
    clear e2 e3 hfm hR' hK' hn' hm' hb' hR hLn hmW hrd
    gi_wp2
    have hBl := hp_lt HE2.out
    have hBl3 := hp_lt HE3.out
    have hSl := hp_lt HK'.out
    have hfb : B + 1 + 1 + 1 + 1 ∈ K.base ∧ B ∈ K.base ∧ B + 1 ∈ K.base := by rw [HK.out]; simp [RdK.base]
    obtain ⟨X, hX⟩ : ∃ X, X = (W'.setCell ⟨B, 0, none⟩ (ptrV (B + 1 + 1 + 1 + 1))).setCell ⟨B + 1, 0, none⟩ .nilIface := ⟨_, rfl⟩
    have g2 : X.heap[B]? = some (.cells #[ptrV (B + 1 + 1 + 1 + 1)] 24 (0, 0)) := by subst hX; exact hp_far (hp_eq (hp_set HE2.out 0 _) (by simp)) (by simp) _
    have g3 : X.heap[B + 1]? = some (.cells #[.nilIface] 43 (0, 0)) := by subst hX; exact hp_eq (hp_set (hp_far HE3.out (by simp) _) 0 _) (by simp)
    have gk : X.heap[S + 2]? = some (.deferred (some [])) := by subst hX; exact hp_far (hp_far HK'.out (by simp; omega) _) (by simp; omega) _
    have M1 : Mod (fun b => b = B ∨ b = B + 1 ∨ b = S + 2) W' (X.putObj (S + 2) (.deferred none)) := by
      subst hX
      exact (((Mod.refl _ _).setCell (.inl (.inl rfl)) _).setCell (.inl (.inr (.inl rfl))) _).putObj (.inl (.inr (.inr rfl))) _
    have k2 : (X.putObj (S + 2) (.deferred none)).heap[B]? = some (.cells #[ptrV (B + 1 + 1 + 1 + 1)] 24 (0, 0)) := by rw [World.putObj_heap_other (by omega)]; exact g2
    have k3 : (X.putObj (S + 2) (.deferred none)).heap[B + 1]? = some (.cells #[.nilIface] 43 (0, 0)) := by rw [World.putObj_heap_other (by omega)]; exact g3
    have hc2 := hp_cell k2 0
    have hc3 := hp_cell k3 0
    change bodyPostM _ _ _ _ _ _ _ ((W'.setCell ⟨B, 0, none⟩ (ptrV (B + 1 + 1 + 1 + 1))).setCell ⟨B + 1, 0, none⟩ .nilIface)
    rw [← hX]
    have HB' := HB.out
    refine retM1 (v := .tuple #[ptrV (B + 1 + 1 + 1 + 1), .nilIface]) rfl gk ?_ ⟨?_, ?_⟩
    · simp [results, asAddr, go_sem] at hc2 hc3 ⊢
      simp [hc2, hc3, Result.andThen]
    · rw [HLS.out]
      refine ⟨_, _, _, hs, rfl, rfl, HFM.out.mod M1 (by omega) (by omega) (by omega), fun h hh => ?_, by omega, by omega, by omega⟩
      have hr := HRows.out h hh
      refine (hr.keep (M1.agree fun b hb => ⟨(Hb'.out b hb.1).1, ?_⟩)).mono fun b hb => ⟨by rcases (Hb'.out b hb.1).2 with h1 | h1 <;> omega, Nat.lt_of_lt_of_le (Hb'.out b hb.1).1 M1.size⟩
      rintro (rfl | rfl | rfl)
      · exact hb.2 hfb.2.1
      · exact hb.2 hfb.2.2
      · exact HNS.out hb.1
    · refine Mod.trans (C' := fun b => B ≤ b) HMW.out ?_ (fun b hb => .inr (by omega))
      refine (Hm'.out.mono fun b _ h => ?_).trans M1 fun b hb => ?_
      · rcases h with h | h
        · exact h.1
        · exact h.elim
      · rcases hb with rfl | rfl | rfl <;> (left; omega)
  case stop =>
    rintro W' C' cc k hk0 hk ⟨rfl, b, n, e2, e3, he, c1, -, -, hls⟩ - hm' hb' hK' hn'
    rw [hsz] at hK' hn' ⊢
    have e2 : W'.heap[B]? = some (.cells #[.pointer none] 24 (0, 0)) := by subst hK; exact e2
    have e3 : W'.heap[B + 1]? = some (.cells #[.iface 47 (ptrV b)] 43 (0, 0)) := by subst hK; exact e3
    have HLS := Lib.hid hls
    clear hls
    have hbl := hb' b c1
    have g2 : (W'.putObj (S + 2) (.deferred none)).heap[B]? = some (.cells #[.pointer none] 24 (0, 0)) := by rw [World.putObj_heap_other (by omega)]; exact e2
    have g3 : (W'.putObj (S + 2) (.deferred none)).heap[B + 1]? = some (.cells #[.iface 47 (ptrV b)] 43 (0, 0)) := by rw [World.putObj_heap_other (by omega)]; exact e3
    have hbn : b ≠ S + 2 := by
      rintro rfl
      have := hp_lt he
      unfold ErrAt at he
      rw [hK'] at he
      cases he
    have hc2 := hp_cell g2 0
    have hc3 := hp_cell g3 0
    gi_wp2
    refine retM1 (v := .tuple #[.pointer none, .iface 47 (ptrV b)]) rfl hK' ?_ ⟨?_, ?_⟩
    · simp [results, asAddr, go_sem] at hc2 hc3 ⊢
      simp [hc2, hc3, Result.andThen]
    · rw [HLS.out]
      refine ⟨b, rfl, ?_, ?_⟩
      · unfold ErrAt
        rw [World.putObj_heap_other hbn]; exact he
      · rw [← HB.out]; rcases hbl.2 with h | h <;> omega
    · refine Mod.putObj (HMW.out.trans hm' fun b hb => ?_) (.inr (by have := HB.out; omega)) _
      have := HB.out
      rcases hb with h | h
      · right; omega
      · exact h.elim
end Go.Proofs.YtidbgfmknhlmnaaGreatDoor
