/-
  Foldings asked: what a code point, and a text, is folded to.
-/
import Derived.Test.YtidbgfmknhlmnaaGreatDoorFoldC
import Derived.Test.YtidbgfmknhlmnaaGreatDoorSame
namespace Go.Proofs.YtidbgfmknhlmnaaGreatDoor
open Go.RowKit Go.Shelf Go.Sort
attribute [local go_sem] Oper.semAt_some

/-- A folding's pointer: not there, there without maps, or whole. -/
def FoldIn (D : Nat → Prop) (w : World) (v : Value) (hs : List FH) : Prop :=
  (v = .pointer none ∧ hs = []) ∨ (∃ fb, v = ptrV fb ∧ D fb ∧ w.cell? ⟨fb, 0, none⟩ = some (.map none) ∧ hs = []) ∨
  ∃ fb m1 m2, v = ptrV fb ∧ D fb ∧ D m1 ∧ D m2 ∧ FoldM w fb m1 m2 (fullM hs) (simpM hs) ∧ (∀ h ∈ hs, Rd D w 1 csI h.A (natI h.x.row)) ∧ GoodL (hs.map FH.x)
theorem FoldIn.keep {D : Nat → Prop} {w w' : World} {v : Value} {hs : List FH} (h : FoldIn D w v hs) (hA : Agree D w w') : FoldIn D w' v hs := by
  rcases h with h | ⟨fb, rfl, d0, h1, h2⟩ | ⟨fb, m1, m2, rfl, d0, d1, d2, h1, h2, h3⟩
  · exact .inl h
  · exact .inr (.inl ⟨fb, rfl, d0, (hA.cell (p := ⟨fb, 0, none⟩) d0).trans h1, h2⟩)
  · exact .inr (.inr ⟨fb, m1, m2, rfl, d0, d1, d2, h1.agree hA d0 d1 d2, fun x hx => (h2 x hx).keep hA, h3⟩)
theorem FoldIn.mono {D D' : Nat → Prop} {w : World} {v : Value} {hs : List FH} (h : FoldIn D w v hs) (hd : ∀ b, D b → D' b) : FoldIn D' w v hs := by
  rcases h with h | ⟨fb, rfl, d0, h1, h2⟩ | ⟨fb, m1, m2, rfl, d0, d1, d2, h1, h2, h3⟩
  · exact .inl h
  · exact .inr (.inl ⟨fb, rfl, hd _ d0, h1, h2⟩)
  · exact .inr (.inr ⟨fb, m1, m2, rfl, hd _ d0, hd _ d1, hd _ d2, h1, fun x hx => (h2 x hx).mono hd, h3⟩)
theorem FoldIn.mod {D C : Nat → Prop} {w w' : World} {v : Value} {hs : List FH} (h : FoldIn D w v hs) (hm : Mod C w w') (hd : ∀ b, D b → b < w.heap.size ∧ ¬ C b) : FoldIn D w' v hs := h.keep (hm.agree hd)
theorem fullL_nil (r : Int) : fullL [] r = [r] := rfl
theorem lenOk_le {s : Bs} {n : Nat} (h : lenOk s n = true) : 1 ≤ n ∧ n ≤ 3 := by
  unfold lenOk at h
  split at h
  · simp only [Bool.or_eq_true, decide_eq_true_eq] at h; omega
  · simp only [decide_eq_true_eq] at h; omega
theorem aloneL_len {x : FL} (h : aloneL x = true) : 1 ≤ x.row.length ∧ x.row.length ≤ 3 := by
  simp only [aloneL, Bool.and_eq_true] at h
  exact lenOk_le h.1.2
theorem full_find (hs : List FH) (r : Int) : (mGet r (fullM hs) = none ∧ fullL (hs.map FH.x) r = [r]) ∨ ∃ h ∈ hs, mGet r (fullM hs) = some h.sl ∧ fullL (hs.map FH.x) r = natI h.x.row := by
  induction hs with
  | nil => exact .inl ⟨rfl, rfl⟩
  | cons h t ih =>
    by_cases hc : isCF h.x = true
    · have e : fullM (h :: t) = ((h.x.R : Int), h.sl) :: fullM t := by simp [fullM, hc]
      rw [e, mGet_cons]
      by_cases hr : r = (h.x.R : Int)
      · right
        refine ⟨h, by simp, by rw [if_pos hr], ?_⟩
        unfold fullL
        rw [List.map_cons, List.find?_cons]
        simp [hr, hc]
      · rw [if_neg hr]
        have e2 : fullL ((h :: t).map FH.x) r = fullL (t.map FH.x) r := by
          unfold fullL
          rw [List.map_cons, List.find?_cons]
          have : decide ((h.x.R : Int) = r) = false := by simp; exact fun e => hr e.symm
          simp [this]
        rw [e2]
        rcases ih with ih | ⟨y, hy, ih⟩
        · exact .inl ih
        · exact .inr ⟨y, by simp [hy], ih⟩
    · have hc : isCF h.x = false := by simpa using hc
      have e : fullM (h :: t) = fullM t := by simp [fullM, hc]
      have e2 : fullL ((h :: t).map FH.x) r = fullL (t.map FH.x) r := by
        unfold fullL
        rw [List.map_cons, List.find?_cons]
        simp [hc]
      rw [e, e2]
      rcases ih with ih | ⟨y, hy, ih⟩
      · exact .inl ih
      · exact .inr ⟨y, by simp [hy], ih⟩
theorem simp_find (hs : List FH) (r : Int) : (mGet r (simpM hs) = none ∧ simpL (hs.map FH.x) r = r) ∨ mGet r (simpM hs) = some (.int .i32 (simpL (hs.map FH.x) r)) := by
  induction hs with
  | nil => exact .inl ⟨rfl, rfl⟩
  | cons h t ih =>
    by_cases hc : isCS h.x = true
    · have e : simpM (h :: t) = ((h.x.R : Int), .int .i32 (at_ (natI h.x.row) 0)) :: simpM t := by simp [simpM, hc]
      rw [e, mGet_cons]
      by_cases hr : r = (h.x.R : Int)
      · right
        rw [if_pos hr]
        unfold simpL
        rw [List.map_cons, List.find?_cons]
        have : decide ((h.x.R : Int) = r) = true := by simp [hr]
        simp only [this, hc, Bool.and_true]
        unfold at_
        cases natI h.x.row <;> rfl
      · rw [if_neg hr]
        have e2 : simpL ((h :: t).map FH.x) r = simpL (t.map FH.x) r := by
          unfold simpL
          rw [List.map_cons, List.find?_cons]
          have : decide ((h.x.R : Int) = r) = false := by simp; exact fun e => hr e.symm
          simp [this]
        rw [e2]; exact ih
    · have hc : isCS h.x = false := by simpa using hc
      have e : simpM (h :: t) = simpM t := by simp [simpM, hc]
      have e2 : simpL ((h :: t).map FH.x) r = simpL (t.map FH.x) r := by
        unfold simpL
        rw [List.map_cons, List.find?_cons]
        simp [hc]
      rw [e, e2]; exact ih
set_option maxHeartbeats 1000000 in
/-- slices.Clone: what comes back holds the same, in memory of the call's own. -/
theorem iclone_any (D : Nat → Prop) (A : Option Addr) (c : Nat) (xs : List Int) (w : World) (hA : Rd D w 1 csI A xs) (hl : xs.length ≤ 1099511627776) :
    Calls Tryz.prog 30 #[.slice A xs.length c] w fun e w' => ∃ A' c', e = .returned (.slice A' xs.length c') ∧ OwnS w.heap.size 21 1 csI w' (.slice A' xs.length c') xs ∧ Mod (fun _ => False) w w' := by
  obtain ⟨n, hn⟩ : ∃ n, n = xs.length := ⟨_, rfl⟩
  rw [← hn] at hl
  have HN := Lib.hid hn
  rcases A with _ | a
  · have h0 : xs = [] := by
      cases xs with
      | nil => rfl
      | cons y r => obtain ⟨b, off, h, _⟩ := hA (by simp); cases h
    subst h0
    have q22 := fun w n c => Lib.run_eql_slice_nil (P := Tryz.prog) w 22 21 none n c 0 0 Tryz.underlying22
    have H0 := Lib.hid (OwnS.nil w.heap.size 21 1 csI w)
    clear hn hA
    go_enter Tryz.func30, Tryz.ntmps30
    go_wp2
    go_ret
    exact ⟨none, 0, rfl, H0.out, Mod.refl _ _⟩
  · rw [← hn]
    have q22 := fun w n c => Lib.run_eql_slice_nil (P := Tryz.prog) w 22 21 (some a) n c 0 0 Tryz.underlying22
    have hmade := Lib.hid (World.ownsRow_made (base := w.heap.size) (e := 21) (size := 1) w #[] 0 (Nat.le_refl _) (Nat.zero_le _) (by simp))
    have HA := Lib.hid (show Rd (fun b => D b ∧ b < w.heap.size) w 1 csI (some a) xs from hA.lt csI_len (by decide))
    clear hn hA
    go_enter Tryz.func30, Tryz.ntmps30
    go_wp2_with (at_builtin
                 refine wpList_app (base := w.heap.size) (xs := []) (ys := xs) (D := fun b => D b ∧ b < w.heap.size) (v := .slice (some ⟨w.heap.size, 0, none⟩) 0 0) rfl (.tmp 5) (.tmp 6) rfl i32s_t csI_len csI_one rfl hmade.out _ rfl HN.out (HA.out.below ((Below.refl _ w).alloc (Nat.le_refl _) _) fun b h => h.2) ?_ ?_ ?_ ?_
                 · rw [← HN.out]; simp [maxLen]; omega
                 · rw [← HN.out]; simp; omega
                 · simp
                 intro v' w2 hown2 hm2 hat2
                 rw [List.nil_append] at hown2
                 obtain ⟨A2, c2, hv2, -, hfr2, hml2⟩ := OwnS.rd hown2 csI_len
                 rw [← HN.out] at hv2
                 subst hv2
                 have M2 := ((Mod.refl (fun _ => False) w).alloc (.cells #[] 21)).trans hm2 (fun b hb => by simp [Value.ownBlock] at hb; right; omega)
                 clear hm2)
    go_ret
    exact ⟨A2, c2, rfl, hown2, M2⟩
theorem run_neq_map {P : Program} (w : World) (t : TypeId) {kt et : TypeId} (ht : P.underlying t = some (.map kt et)) (m : Option Nat) : (binOp .neq t (.map m) (.map none)).run P w = .ok (.bool m.isSome) w := by
  have h' : ∀ d : Nat, (Op.equalIn (d + 1) t (.map m) (.map none)).run P w = .ok (m == none) w := fun d => by cases m <;> simp [Op.equalIn, run_underlying ht]
  simp only [binOp]
  simp [Op.equal, Op.maxDepth, h' 9999]
  try (cases m <;> simp)
theorem dthere_no (v : Value) (w : World) (h : v = .pointer none ∨ ∃ fb, v = ptrV fb ∧ w.cell? ⟨fb, 0, none⟩ = some (.map none)) : Calls Tryz.prog 29 #[v] w fun e w' => e = .returned (.bool false) ∧ w = w' := by
  rcases h with rfl | ⟨fb, rfl, h⟩
  · go_enter Tryz.func29, Tryz.ntmps29
    go_wp2
    go_ret
    exact ⟨rfl, rfl⟩
  · have hn := fun W => run_neq_map (P := Tryz.prog) W _ Tryz.underlying60 none
    go_enter Tryz.func29, Tryz.ntmps29
    go_wp2
    go_ret
    exact ⟨rfl, rfl⟩
theorem dthere_yes (fb m : Nat) (w : World) (h : w.cell? ⟨fb, 0, none⟩ = some (.map (some m))) : Calls Tryz.prog 29 #[ptrV fb] w fun e w' => e = .returned (.bool true) ∧ w = w' := by
  have hn := fun W => run_neq_map (P := Tryz.prog) W _ Tryz.underlying60 (some m)
  go_enter Tryz.func29, Tryz.ntmps29
  go_wp2
  go_ret
  exact ⟨rfl, rfl⟩
set_option maxRecDepth 100000 in
set_option maxHeartbeats 1000000 in
theorem dfull_any (D : Nat → Prop) (v : Value) (hs : List FH) (r : Int) (w : World) (hF : FoldIn D w v hs) :
    Calls Tryz.prog 15 #[v, .int .i32 r] w fun e w' => ∃ u, e = .returned u ∧ OwnS w.heap.size 21 1 csI w' u (fullL (hs.map FH.x) r) ∧ Mod (fun _ => False) w w' := by
  have hone : OwnS w.heap.size 21 1 csI (w.alloc (.cells #[.int .i32 r] 21)) (.slice (some ⟨w.heap.size, 0, none⟩) 1 1) [r] :=
    ⟨rfl, .inr ⟨w.heap.size, 1, #[.int .i32 r], rfl, Nat.le_refl _, hp_new _ _, by simp, by simp [maxLen], by simp, by simp [csI]⟩⟩
  have H1 := Lib.hid hone
  clear hone
  have hno : (v = .pointer none ∨ ∃ fb, v = ptrV fb ∧ w.cell? ⟨fb, 0, none⟩ = some (.map none)) → hs = [] → Calls Tryz.prog 15 #[v, .int .i32 r] w fun e w' => ∃ u, e = .returned u ∧ OwnS w.heap.size 21 1 csI w' u (fullL (hs.map FH.x) r) ∧ Mod (fun _ => False) w w' := by
    rintro h rfl
    have HT := Lib.hid (dthere_no v w h)
    clear h hF
    go_enter Tryz.func15, Tryz.ntmps15
    go_wp2_with (first | (go_at_call 29; (with_reducible refine HT.out.mono ?_); rintro e w2 ⟨rfl, rfl⟩) | fail)
    go_ret
    exact ⟨_, rfl, H1.out, by (repeat' (first | exact Mod.refl _ _ | assumption | refine Mod.alloc ?_ _ | refine Mod.drew ?_ | refine Mod.drewN ?_ _ | refine Mod.setCell ?_ (by first | exact Or.inl rfl | (right; simp; done) | (right; simp; omega) | (left; simp; done)) _))⟩
  rcases hF with ⟨rfl, h0⟩ | ⟨fb, rfl, d0, h1, h2⟩ | ⟨fb, m1, m2, rfl, d0, d1, d2, hM, hR, hG⟩
  · exact hno (.inl rfl) h0
  · exact hno (.inr ⟨fb, rfl, h1⟩) h2
  · clear hno
    have HT := Lib.hid (dthere_yes fb m1 w hM.c1)
    have c1 := hM.c1
    have hlk := run_mget (P := Tryz.prog) (w := w) kvK_t Tryz.underlying60 (z := .slice none 0 0) (by kernel_rfl) hM.h1 r true
    rcases full_find hs r with ⟨hg, hf⟩ | ⟨h, hh, hg, hf⟩
    · rw [hg] at hlk
      have HF := Lib.hid hf
      have hlk : (Instr.lookup 60 (.map (some m1)) (.int .i32 r) true).run Tryz.prog w = .ok (.tuple #[.slice none 0 0, .bool false]) w := hlk
      clear hf hg hM hR hG
      go_enter Tryz.func15, Tryz.ntmps15
      go_wp2_with (first | (go_at_call 29; (with_reducible refine HT.out.mono ?_); rintro e w2 ⟨rfl, rfl⟩) | fail)
      go_ret
      exact ⟨_, rfl, by rw [HF.out]; exact H1.out, by (repeat' (first | exact Mod.refl _ _ | assumption | refine Mod.alloc ?_ _ | refine Mod.drew ?_ | refine Mod.drewN ?_ _ | refine Mod.setCell ?_ (by first | exact Or.inl rfl | (right; simp; done) | (right; simp; omega) | (left; simp; done)) _))⟩
    · rw [hg] at hlk
      have hlen := aloneL_len (hG.alone h.x (List.mem_map_of_mem hh))
      have hcl := iclone_any D h.A h.c (natI h.x.row) w (hR h hh) (by rw [natI_len]; omega)
      rw [natI_len] at hcl
      have hlk : (Instr.lookup 60 (.map (some m1)) (.int .i32 r) true).run Tryz.prog w = .ok (.tuple #[.slice h.A h.x.row.length h.c, .bool true]) w := hlk
      rw [hf]
      have HC := Lib.hid hcl
      clear hf hg hM hR hG hcl hlen
      go_enter Tryz.func15, Tryz.ntmps15
      go_wp2_with (first | (go_at_call 29; (with_reducible refine HT.out.mono ?_); rintro e w2 ⟨rfl, rfl⟩) | (go_at_call 30; (with_reducible refine HC.out.mono ?_); rintro e w2 ⟨A', c', rfl, ho, hm⟩) | fail)
      go_ret
      exact ⟨_, rfl, ho, hm⟩
set_option maxRecDepth 100000 in
set_option maxHeartbeats 1000000 in
theorem dsimple_any (D : Nat → Prop) (v : Value) (hs : List FH) (r : Int) (w : World) (hF : FoldIn D w v hs) :
    Calls Tryz.prog 22 #[v, .int .i32 r] w fun e w' => e = .returned (.int .i32 (simpL (hs.map FH.x) r)) ∧ w = w' := by
  have hno : (v = .pointer none ∨ ∃ fb, v = ptrV fb ∧ w.cell? ⟨fb, 0, none⟩ = some (.map none)) → hs = [] → Calls Tryz.prog 22 #[v, .int .i32 r] w fun e w' => e = .returned (.int .i32 (simpL (hs.map FH.x) r)) ∧ w = w' := by
    rintro h rfl
    have HT := Lib.hid (dthere_no v w h)
    clear h hF
    go_enter Tryz.func22, Tryz.ntmps22
    go_wp2_with (first | (go_at_call 29; (with_reducible refine HT.out.mono ?_); rintro e w2 ⟨rfl, rfl⟩) | fail)
    go_ret
    exact ⟨rfl, rfl⟩
  rcases hF with ⟨rfl, h0⟩ | ⟨fb, rfl, d0, h1, h2⟩ | ⟨fb, m1, m2, rfl, d0, d1, d2, hM, hR, hG⟩
  · exact hno (.inl rfl) h0
  · exact hno (.inr ⟨fb, rfl, h1⟩) h2
  · clear hno
    have HT := Lib.hid (dthere_yes fb m1 w hM.c1)
    have c2 := hM.c2
    have hlk := run_mget (P := Tryz.prog) (w := w) kvK_t Tryz.underlying61 (z := .int .i32 0) (by kernel_rfl) hM.h2 r true
    obtain ⟨y, hy⟩ : ∃ y, y = simpL (hs.map FH.x) r := ⟨_, rfl⟩
    have hfind := simp_find hs r
    rw [← hy] at hfind ⊢
    rcases hfind with ⟨hg, rfl⟩ | hg
    · rw [hg] at hlk
      have hlk : (Instr.lookup 61 (.map (some m2)) (.int .i32 y) true).run Tryz.prog w = .ok (.tuple #[.int .i32 0, .bool false]) w := hlk
      clear hy hg hM hR hG
      go_enter Tryz.func22, Tryz.ntmps22
      go_wp2_with (first | (go_at_call 29; (with_reducible refine HT.out.mono ?_); rintro e w2 ⟨rfl, rfl⟩) | fail)
      go_ret
      exact ⟨rfl, rfl⟩
    · rw [hg] at hlk
      have hlk : (Instr.lookup 61 (.map (some m2)) (.int .i32 r) true).run Tryz.prog w = .ok (.tuple #[.int .i32 y, .bool true]) w := hlk
      clear hy hg hM hR hG
      go_enter Tryz.func22, Tryz.ntmps22
      go_wp2_with (first | (go_at_call 29; (with_reducible refine HT.out.mono ?_); rintro e w2 ⟨rfl, rfl⟩) | fail)
      go_ret
      exact ⟨rfl, rfl⟩
theorem fullL_len {hs : List FH} {D : Nat → Prop} {w : World} {v : Value} (hF : FoldIn D w v hs) (r : Int) : (fullL (hs.map FH.x) r).length ≤ 3 := by
  rcases hF with ⟨rfl, rfl⟩ | ⟨fb, rfl, d0, h1, rfl⟩ | ⟨fb, m1, m2, rfl, d0, d1, d2, hM, hR, hG⟩
  · simp [fullL]
  · simp [fullL]
  · rcases full_find hs r with ⟨-, hf⟩ | ⟨h, hh, -, hf⟩
    · rw [hf]; simp
    · rw [hf, natI_len]; exact (aloneL_len (hG.alone h.x (List.mem_map_of_mem hh))).2
theorem textL_take {ls : List FL} {xs : List Int} {k : Nat} (h : k < xs.length) : textL ls (xs.take (k + 1)) = textL ls (xs.take k) ++ fullL ls xs[k] := by
  unfold textL
  rw [List.take_succ_eq_append_getElem h, List.flatMap_append]
  simp
theorem textL_le {ls : List FL} (h : ∀ r, (fullL ls r).length ≤ 3) (xs : List Int) : (textL ls xs).length ≤ 3 * xs.length := by
  unfold textL
  induction xs with
  | nil => simp
  | cons x t ih => rw [List.flatMap_cons, List.length_append, List.length_cons]; have := h x; omega
set_option maxRecDepth 100000 in
set_option maxHeartbeats 1000000 in
theorem dtext_any (D D2 : Nat → Prop) (v : Value) (hs : List FH) (A : Option Addr) (c : Nat) (xs : List Int) (w : World) (hF : FoldIn D w v hs) (hD : ∀ b, D b → b < w.heap.size) (hA : Rd D2 w 1 csI A xs) (hD2 : ∀ b, D2 b → b < w.heap.size) (hl : xs.length ≤ 1000000) :
    Calls Tryz.prog 16 #[v, .slice A xs.length c] w fun e w' => ∃ u, e = .returned u ∧ OwnS w.heap.size 21 1 csI w' u (textL (hs.map FH.x) xs) ∧ Mod (fun _ => False) w w' := by
  obtain ⟨n, hn⟩ : ∃ n, n = xs.length := ⟨_, rfl⟩
  obtain ⟨ls, hls⟩ : ∃ ls, ls = hs.map FH.x := ⟨_, rfl⟩
  have HLen := Lib.hid (fun r => fullL_len hF r)
  rw [← hls] at HLen ⊢
  rw [← hn] at hl ⊢
  have HN := Lib.hid hn
  have HA := Lib.hid hA
  have HF := Lib.hid hF
  have HD := Lib.hid hD
  have HD2 := Lib.hid hD2
  have HLS := Lib.hid hls
  have H0 := Lib.hid (OwnS.nil w.heap.size 21 1 csI w)
  clear hn hA hF hD hD2 hls
  go_enter Tryz.func16, Tryz.ntmps16
  go_wp2
  go_loopw [5, 10] (fun u i wr => ∃ k : Nat, k ≤ n ∧ i = .int .i64 k ∧ OwnS w.heap.size 21 1 csI wr u (textL ls (xs.take k)) ∧ Mod (fun _ => False) w wr) (fun _ i _ => n - (intOf i).toNat)
  case atStart => exact ⟨0, Nat.zero_le _, rfl, H0.out, Mod.refl _ _⟩
  case round =>
    obtain ⟨k, hk, rfl, ho, hm⟩ := hrel
    have HO := Lib.hid ho
    have HM := Lib.hid hm
    clear ho hm
    by_cases hlt : k < n
    · have hkx : k < xs.length := by rw [← HN.out]; exact hlt
      obtain ⟨b, off, rfl, -, q1⟩ := rdI (HA.out.mod HM.out (fun b hb => ⟨HD2.out b hb, id⟩)) hkx
      obtain ⟨x, hx⟩ : ∃ x, x = xs[k] := ⟨_, rfl⟩
      rw [← hx] at q1
      have HT := Lib.hid (show textL ls (xs.take (k + 1)) = textL ls (xs.take k) ++ fullL ls x by rw [hx]; exact textL_take hkx)
      have HC := Lib.hid (show ∀ r, Calls Tryz.prog 15 #[v, .int .i32 r] wr fun e w' => ∃ u, e = .returned u ∧ OwnS wr.heap.size 21 1 csI w' u (fullL ls r) ∧ Mod (fun _ => False) wr w' from fun r => by
        rw [HLS.out]; exact dfull_any D v hs r wr (HF.out.mod HM.out fun b hb => ⟨HD.out b hb, id⟩))
      have HL := Lib.hid (show (textL ls (xs.take k)).length + (fullL ls x).length ≤ 6000000 by
        have h1 := textL_le HLen.out (xs.take k)
        have h2 := HLen.out x
        rw [List.length_take] at h1
        have h3 : n ≤ 1000000 := hl
        omega)
      clear hx
      go_wp2_with (first
        | (go_at_call 15
           (with_reducible refine (HC.out _).mono ?_)
           rintro e w2 ⟨u2, rfl, ho2, hm2⟩
           have HO2 := Lib.hid (HO.out.mod hm2 (fun _ _ => id))
           have HM2 := Lib.hid (HM.out.trans' hm2)
           have hs2 := HM2.out.size
           obtain ⟨A2, c2, hv2, hr2, hf2, -⟩ := ho2.rd csI_len
           subst hv2
           have HR2 := Lib.hid hr2
           clear ho2 hm2 hr2 hf2)
        | (at_builtin
           refine wpList_app (base := w.heap.size) (xs := textL ls (xs.take k)) (ys := fullL ls x) rfl (.tmp 14) (.tmp 17) rfl i32s_t csI_len csI_one rfl HO2.out _ rfl rfl HR2.out ?_ ?_ ?_ ?_
           · have := HL.out; simp only [maxLen]; omega
           · have := HL.out; omega
           · exact hs2
           intro v' w3 hown3 hm3 _
           have HO3 := Lib.hid hown3
           have HM3 := Lib.hid (HM2.out.trans hm3 (fun b hb => .inr (HO2.out.fresh b hb).1))
           clear hown3 hm3)
        | fail)
      exact ⟨⟨k + 1, by omega, by go_num, by rw [HT.out]; exact HO3.out, HM3.out⟩, by simp only [intOf]; omega⟩
    · obtain rfl : k = n := by omega
      have HE := Lib.hid (show xs.take k = xs by rw [HN.out]; exact List.take_length)
      rw [HE.out] at HO
      go_wp2
      go_ret
      exact ⟨_, rfl, HO.out, HM.out⟩
end Go.Proofs.YtidbgfmknhlmnaaGreatDoor
/-
  Foldings gone over: lists compared by the library, what changes, the iterator.
-/
namespace Go.Proofs.YtidbgfmknhlmnaaGreatDoor
open Go.RowKit Go.Shelf Go.Sort
attribute [local go_sem] Oper.semAt_some

set_option maxRecDepth 100000 in
set_option maxHeartbeats 1000000 in
theorem iequal_any (D1 D2 : Nat → Prop) (A B : Option Addr) (c d : Nat) (xs ys : List Int) (w : World) (hA : Rd D1 w 1 csI A xs) (hB : Rd D2 w 1 csI B ys) (hx : xs.length ≤ maxLen) (hy : ys.length ≤ maxLen) (h1 : ∀ b, D1 b → b < w.heap.size) (h2 : ∀ b, D2 b → b < w.heap.size) :
    Calls Tryz.prog 41 #[.slice A xs.length c, .slice B ys.length d] w fun e w' => e = .returned (.bool (decide (xs = ys))) ∧ Mod (fun _ => False) w w' := by
  unfold maxLen at hx hy
  obtain ⟨n, hn⟩ : ∃ n, n = xs.length := ⟨_, rfl⟩
  obtain ⟨m, hm⟩ : ∃ m, m = ys.length := ⟨_, rfl⟩
  rw [← hn] at hx ⊢
  rw [← hm] at hy ⊢
  have HN := Lib.hid hn
  have HM := Lib.hid hm
  have HA := Lib.hid hA
  have HB := Lib.hid hB
  have H1 := Lib.hid h1
  have H2 := Lib.hid h2
  obtain ⟨r, hr⟩ : ∃ r, r = decide (xs = ys) := ⟨_, rfl⟩
  rw [← hr]
  have HR := Lib.hid hr
  clear hn hm hA hB h1 h2 hr
  by_cases hnm : n = m
  · subst hnm
    have hne : ((n : Int) != (n : Int)) = false := by simp
    go_enter Tryz.func41, Tryz.ntmps41
    go_wp2
    go_loopw [13] (fun i wr => ∃ k : Nat, k ≤ n ∧ i = .int .i64 k ∧ xs.take k = ys.take k ∧ Mod (fun _ => False) w wr) (fun i _ => n - (intOf i).toNat)
    case atStart => exact ⟨0, Nat.zero_le _, rfl, by simp, Mod.refl _ _⟩
    case round =>
      obtain ⟨k, hk, rfl, he, hmw⟩ := hrel
      have HE := Lib.hid he
      have HMw := Lib.hid hmw
      clear he hmw
      by_cases hlt : k < n
      · have hkx : k < xs.length := by rw [← HN.out]; exact hlt
        have hky : k < ys.length := by rw [← HM.out]; exact hlt
        obtain ⟨b1, o1, rfl, -, q1⟩ := rdI (HA.out.mod HMw.out (fun b hb => ⟨H1.out b hb, id⟩)) hkx
        obtain ⟨b2, o2, rfl, -, q2⟩ := rdI (HB.out.mod HMw.out (fun b hb => ⟨H2.out b hb, id⟩)) hky
        obtain ⟨x, hx'⟩ : ∃ x, x = xs[k] := ⟨_, rfl⟩
        obtain ⟨y, hy'⟩ : ∃ y, y = ys[k] := ⟨_, rfl⟩
        rw [← hx'] at q1
        rw [← hy'] at q2
        have HTx := Lib.hid (show xs.take (k + 1) = xs.take k ++ [x] by rw [hx']; exact List.take_succ_eq_append_getElem hkx)
        have HTy := Lib.hid (show ys.take (k + 1) = ys.take k ++ [y] by rw [hy']; exact List.take_succ_eq_append_getElem hky)
        clear hx' hy'
        by_cases hxy : x = y
        · subst hxy
          have hne2 : (x != x) = false := by simp
          go_wp2
          go_quiet (fail)
          go_wp2
          exact ⟨⟨k + 1, by omega, by go_num, by rw [HTx.out, HTy.out, HE.out], HMw.out.drewN _⟩, by simp only [intOf]; omega⟩
        · have hne2 : (x != y) = true := by simp [hxy]
          have HF := Lib.hid (show r = false by
            rw [HR.out]
            simp only [decide_eq_false_iff_not]
            intro e
            subst e
            have := HTx.out.symm.trans HTy.out
            rw [List.append_cancel_left_eq] at this
            simp at this
            exact hxy this)
          clear hxy
          go_wp2
          go_quiet (fail)
          go_wp2
          go_ret
          exact ⟨by rw [HF.out]; rfl, HMw.out.drewN _⟩
      · obtain rfl : k = n := by omega
        have HT := Lib.hid (show r = true by
          rw [HR.out]
          have h := HE.out
          rw [HN.out, List.take_length] at h
          rw [← HN.out, HM.out, List.take_length] at h
          simpa using h)
        go_wp2
        go_ret
        exact ⟨by rw [HT.out]; rfl, HMw.out⟩
  · have hne : ((n : Int) != (m : Int)) = true := by simp; omega
    have HF := Lib.hid (show r = false by
      rw [HR.out]
      simp only [decide_eq_false_iff_not]
      intro e
      subst e
      exact hnm (HN.out.trans HM.out.symm))
    clear hnm
    go_enter Tryz.func41, Tryz.ntmps41
    go_wp2
    go_ret
    exact ⟨by rw [HF.out]; rfl, Mod.refl _ _⟩
theorem fullM_keys (hs : List FH) : (fullM hs).map Prod.fst = ((hs.map FH.x).filter isCF).map fun x => (x.R : Int) := by
  induction hs with
  | nil => rfl
  | cons h t ih =>
    rw [List.map_cons, List.filter_cons]
    by_cases hc : isCF h.x = true
    · have e : fullM (h :: t) = ((h.x.R : Int), h.sl) :: fullM t := by simp [fullM, hc]
      rw [e, if_pos hc, List.map_cons, List.map_cons, ih]
    · have e : fullM (h :: t) = fullM t := by simp [fullM, hc]
      rw [e, if_neg hc, ih]
theorem full_key {hs : List FH} {r : Int} (h : r ∈ (fullM hs).map Prod.fst) : ∃ y ∈ hs, mGet r (fullM hs) = some y.sl ∧ fullL (hs.map FH.x) r = natI y.x.row := by
  rcases full_find hs r with ⟨hg, -⟩ | hg
  · obtain ⟨p, hp, rfl⟩ := List.mem_map.1 h
    exact absurd rfl (mGet_none.1 hg p hp)
  · exact hg
def chgP (ls : List FL) (r : Int) : Bool := !(decide (fullL ls r = [r]))
theorem chgP_eq (ls : List FL) (ks : List Int) : ks.filter (chgP ls) = ks.filter (fun r => !(fullL ls r == [r])) := by
  congr 1
  funext r
  unfold chgP
  cases h : (fullL ls r == [r])
  · have : ¬ fullL ls r = [r] := by simpa using h
    simp [this]
  · have : fullL ls r = [r] := by simpa using h
    simp [this]
theorem filter_take (p : Int → Bool) {xs : List Int} {k : Nat} (h : k < xs.length) : (xs.take (k + 1)).filter p = (xs.take k).filter p ++ if p xs[k] then [xs[k]] else [] := by
  rw [List.take_succ_eq_append_getElem h, List.filter_append, List.filter_cons]
  split <;> simp
/-- What All hands back. -/
def AllV (v : Value) (ls : List FL) (w : World) (e : Ending) (w' : World) : Prop :=
  ∃ bl bf ul, e = .returned (.func (.func 44) #[] #[ptrV bl, ptrV bf]) ∧ w.heap.size ≤ bf ∧ bf < bl ∧ bl < w'.heap.size ∧ w'.heap[bl]? = some (.cells #[ul] 22 (0, 0)) ∧ w'.heap[bf]? = some (.cells #[v] 24 (0, 0)) ∧ OwnS (bl + 1) 21 1 csI w' ul (chgL ls) ∧ Mod (fun _ => False) w w'
set_option maxRecDepth 100000 in
set_option maxHeartbeats 4000000 in
theorem dall_any (D : Nat → Prop) (v : Value) (hs : List FH) (w : World) (hF : FoldIn D w v hs) (hD : ∀ b, D b → b < w.heap.size) (hlen : hs.length ≤ 1000000) :
    Calls Tryz.prog 27 #[v] w (AllV v (hs.map FH.x) w) := by
  have hno : (v = .pointer none ∨ ∃ fb, v = ptrV fb ∧ w.cell? ⟨fb, 0, none⟩ = some (.map none)) → hs = [] → Calls Tryz.prog 27 #[v] w (AllV v (hs.map FH.x) w) := by
    rintro h rfl
    have HT := Lib.hid (fun X (hX : Mod (fun _ => False) w X) => dthere_no v X (by
      rcases h with h | ⟨fb, h1, h2⟩
      · exact .inl h
      · exact .inr ⟨fb, h1, cell_mod h2 hX id⟩))
    have hp : v = .pointer none ∨ ∃ fb, v = ptrV fb := h.imp id fun ⟨fb, h, _⟩ => ⟨fb, h⟩
    clear h hF hD hlen
    rcases hp with rfl | ⟨fb, rfl⟩
    · have H0 := Lib.hid (OwnS.nil (w.heap.size + 1 + 1) 21 1 csI ((w.alloc (.cells #[.pointer none] 24)).alloc (.cells #[.slice none 0 0] 22)))
      go_enter Tryz.func27, Tryz.ntmps27
      go_wp2_with (first | (go_at_call 29; (with_reducible refine (HT.out _ (by (repeat' (with_reducible (first | exact Mod.refl _ _ | assumption | refine Mod.alloc ?_ _ | refine Mod.drew ?_ | refine Mod.drewN ?_ _ | refine Mod.setCell ?_ (by first | exact Or.inl rfl | (right; simp; done) | (right; simp; omega) | (left; simp; done)) _))))).mono ?_); rintro e w2 ⟨rfl, rfl⟩) | fail)
      go_ret
      exact ⟨w.heap.size + 1, w.heap.size, _, rfl, Nat.le_refl _, by omega, by simp, hp_at _ _ (by simp), by (repeat' (first | exact hp_new _ _ | exact hp_at _ _ (by simp; done) | refine hp_alloc ?_ _ | refine hp_drew ?_ | refine hp_drewN ?_ _ | apply hp_set | refine hp_far ?_ (by first | (simp; omega) | (simp; done)) _)), H0.out, by (repeat' (first | exact Mod.refl _ _ | assumption | refine Mod.alloc ?_ _ | refine Mod.drew ?_ | refine Mod.drewN ?_ _ | refine Mod.setCell ?_ (by first | exact Or.inl rfl | (right; simp; done) | (right; simp; omega) | (left; simp; done)) _))⟩
    · have H0 := Lib.hid (OwnS.nil (w.heap.size + 1 + 1) 21 1 csI ((w.alloc (.cells #[ptrV fb] 24)).alloc (.cells #[.slice none 0 0] 22)))
      go_enter Tryz.func27, Tryz.ntmps27
      go_wp2_with (first | (go_at_call 29; (with_reducible refine (HT.out _ (by (repeat' (with_reducible (first | exact Mod.refl _ _ | assumption | refine Mod.alloc ?_ _ | refine Mod.drew ?_ | refine Mod.drewN ?_ _ | refine Mod.setCell ?_ (by first | exact Or.inl rfl | (right; simp; done) | (right; simp; omega) | (left; simp; done)) _))))).mono ?_); rintro e w2 ⟨rfl, rfl⟩) | fail)
      go_ret
      exact ⟨w.heap.size + 1, w.heap.size, _, rfl, Nat.le_refl _, by omega, by simp, hp_at _ _ (by simp), by (repeat' (first | exact hp_new _ _ | exact hp_at _ _ (by simp; done) | refine hp_alloc ?_ _ | refine hp_drew ?_ | refine hp_drewN ?_ _ | apply hp_set | refine hp_far ?_ (by first | (simp; omega) | (simp; done)) _)), H0.out, by (repeat' (first | exact Mod.refl _ _ | assumption | refine Mod.alloc ?_ _ | refine Mod.drew ?_ | refine Mod.drewN ?_ _ | refine Mod.setCell ?_ (by first | exact Or.inl rfl | (right; simp; done) | (right; simp; omega) | (left; simp; done)) _))⟩
  rcases hF with ⟨rfl, h0⟩ | ⟨fb, rfl, d0, h1, h2⟩ | ⟨fb, m1, m2, rfl, d0, d1, d2, hM, hR, hG⟩
  · exact hno (.inl rfl) h0
  · exact hno (.inr ⟨fb, rfl, h1⟩) h2
  clear hno
  obtain ⟨B, hB⟩ : ∃ B, B = w.heap.size := ⟨_, rfl⟩
  obtain ⟨ls, hls⟩ : ∃ ls, ls = hs.map FH.x := ⟨_, rfl⟩
  rw [← hls] at hG ⊢
  have HLS := Lib.hid hls
  have HM0 := Lib.hid hM
  have HR := Lib.hid hR
  have HG := Lib.hid hG
  have HD := Lib.hid hD
  have HB := Lib.hid hB
  have hfb := cell_lt hM.c1
  have hm1 := hp_lt hM.h1
  simp only at hfb
  rw [← hB] at hfb hm1
  have HT := Lib.hid (fun X (hX : Mod (fun _ => False) w X) => dthere_yes fb m1 X (cell_mod hM.c1 hX id))
  have HC1 := Lib.hid (fun X (hX : Mod (fun _ => False) w X) => (cell_mod hM.c1 hX id : X.cell? ⟨fb, 0, none⟩ = some (.map (some m1))))
  have HK := Lib.hid (fun Bt X (hX : Mod (fun _ => False) w X) hBt => sortedKeys_any Bt m1 (fullM hs) X hBt (hp_mod hM.h1 hX id) (by
    unfold fullM
    have := List.length_filter_le (fun h : FH => isCF h.x) hs
    rw [List.length_map]; omega))
  have HHL := Lib.hid hlen
  clear hM hR hG hD hls hlen hB
  go_enter Tryz.func27, Tryz.ntmps27
  go_wp2_with (first
    | (go_at_call 29; (with_reducible refine (HT.out _ (by (repeat' (with_reducible (first | exact Mod.refl _ _ | assumption | refine Mod.alloc ?_ _ | refine Mod.drew ?_ | refine Mod.drewN ?_ _ | refine Mod.setCell ?_ (by first | exact Or.inl rfl | (right; simp; done) | (right; simp; omega) | (left; simp; done)) _))))).mono ?_); rintro e w2 ⟨rfl, rfl⟩; have c1 := HC1.out ((w.alloc (.cells #[ptrV fb] 24)).alloc (.cells #[.slice none 0 0] 22)) (by (repeat' (with_reducible (first | exact Mod.refl _ _ | assumption | refine Mod.alloc ?_ _ | refine Mod.drew ?_ | refine Mod.drewN ?_ _ | refine Mod.setCell ?_ (by first | exact Or.inl rfl | (right; simp; done) | (right; simp; omega) | (left; simp; done)) _)))))
    | (go_at_call 43; refine (mkeys_any _ _).mono ?_; rintro e w2 ⟨rfl, rfl⟩)
    | (go_at_call 42; (with_reducible refine (HK.out _ _ (by (repeat' (with_reducible (first | exact Mod.refl _ _ | assumption | refine Mod.alloc ?_ _ | refine Mod.drew ?_ | refine Mod.drewN ?_ _ | refine Mod.setCell ?_ (by first | exact Or.inl rfl | (right; simp; done) | (right; simp; omega) | (left; simp; done)) _)))) (hp_at _ _ (by simp))).mono ?_); rintro e w3 ⟨vk, ks, rfl, hok, hperm, hsort, hm3⟩
       obtain ⟨Ak, ck, hvk, hrk, hfk, hlk⟩ := hok.rd csI_len
       subst hvk)
    | fail)
  have hk0 := hok.fresh
  have M3 : Mod (fun _ => False) w w3 := Mod.trans' (by (repeat' (first | exact Mod.refl _ _ | assumption | refine Mod.alloc ?_ _ | refine Mod.drew ?_ | refine Mod.drewN ?_ _ | refine Mod.setCell ?_ (by first | exact Or.inl rfl | (right; simp; done) | (right; simp; omega) | (left; simp; done)) _))) hm3
  have q0 : w3.heap[w.heap.size]? = some (.cells #[ptrV fb] 24 (0, 0)) := hp_mod (by (repeat' (first | exact hp_new _ _ | exact hp_at _ _ (by simp; done) | refine hp_alloc ?_ _ | refine hp_drew ?_ | refine hp_drewN ?_ _ | apply hp_set | refine hp_far ?_ (by first | (simp; omega) | (simp; done)) _))) hm3 id
  have q1 : w3.heap[w.heap.size + 1]? = some (.cells #[.slice none 0 0] 22 (0, 0)) := hp_mod (hp_alloc (hp_at _ _ (by simp)) _) hm3 id
  have hs3 := hm3.size
  simp only [World.size_alloc] at hk0 hs3
  have hBw := HB.out
  rw [← hBw] at q0 q1 hk0 hs3
  have hrk2 : Rd (fun b => B + 1 + 1 + 1 ≤ b ∧ b < w3.heap.size) w3 1 csI Ak ks := hrk.mono fun b hb => hk0 b hb
  obtain ⟨n, hn⟩ : ∃ n, n = ks.length := ⟨_, rfl⟩
  have hnl : n ≤ 1000000 := by
    have h1 := hperm.length_eq
    rw [fullM_keys, List.length_map] at h1
    have h2 := List.length_filter_le isCF (hs.map FH.x)
    rw [List.length_map] at h2
    have h3 := HHL.out
    omega
  have HC := Lib.hid (show ks.filter (chgP ls) = chgL ls by
    rw [chgP_eq]
    refine chg_of_sorted (hperm.trans ?_) hsort HG.out
    rw [fullM_keys, ← HLS.out])
  have HKey := Lib.hid (show ∀ r ∈ ks, ∃ y ∈ hs, mGet r (fullM hs) = some y.sl ∧ fullL ls r = natI y.x.row from fun r hr => by
    rw [HLS.out]; exact full_key (hperm.mem_iff.1 hr))
  have HRk := Lib.hid hrk2
  have HN := Lib.hid hn
  have HM3 := Lib.hid M3
  have HQ0 := Lib.hid q0
  rw [← hBw, ← hn]
  clear hok hperm hsort hm3 hrk hfk hlk hk0 q0 hrk2 hn M3 hBw c1
  go_loopw [15] (fun i wr => ∃ (k : Nat) (u : Value), k ≤ n ∧ i = .int .i64 k ∧ wr.heap[B + 1]? = some (.cells #[u] 22 (0, 0)) ∧ OwnS w3.heap.size 21 1 csI wr u ((ks.take k).filter (chgP ls)) ∧ Mod (fun b => b = B + 1) w3 wr) (fun i _ => n - (intOf i).toNat)
  case atStart => exact ⟨0, _, Nat.zero_le _, rfl, q1, OwnS.nil _ _ _ _ _, Mod.refl _ _⟩
  case round =>
    obtain ⟨k, u, hk, rfl, hq1, ho, hm⟩ := hrel
    have HQ1 := Lib.hid hq1
    have HO := Lib.hid ho
    have HM := Lib.hid hm
    clear q1 hq1 ho hm
    by_cases hlt : k < n
    · have hkx : k < ks.length := by rw [← HN.out]; exact hlt
      have MW : Mod (fun _ => False) w wr := HM3.out.trans HM.out fun b hb => .inr (by have := HB.out; omega)
      obtain ⟨b, off, rfl, hb1, qk⟩ := rdI (HRk.out.mod HM.out (fun b hb => ⟨hb.2, by have := hb.1; omega⟩)) hkx
      obtain ⟨x, hx⟩ : ∃ x, x = ks[k] := ⟨_, rfl⟩
      rw [← hx] at qk
      obtain ⟨y, hy, hg, hf⟩ := HKey.out x (by rw [hx]; exact List.getElem_mem _)
      have c0 := hp_cell (hp_mod HQ0.out HM.out (by omega)) 0
      have c1 := HC1.out wr MW
      have hlk := run_mget (P := Tryz.prog) (w := wr) kvK_t Tryz.underlying60 (z := .slice none 0 0) (by kernel_rfl) (hp_mod HM0.out.h1 MW id) x false
      rw [hg] at hlk
      have hlk : (Instr.lookup 60 (.map (some m1)) (.int .i32 x) false).run Tryz.prog wr = .ok (.slice y.A y.x.row.length y.c) wr := hlk
      have hlen := aloneL_len (HG.out.alone y.x (by rw [HLS.out]; exact List.mem_map_of_mem hy))
      have hro := HR.out y hy
      have HE := Lib.hid (show ∀ W, Mod (fun _ => False) wr W → W.heap[wr.heap.size]? = some (.cells #[.int .i32 x] 21 (0, 0)) → Calls Tryz.prog 41 #[.slice y.A y.x.row.length y.c, .slice (some ⟨wr.heap.size, 0, none⟩) 1 1] W fun e w' => e = .returned (.bool (decide (natI y.x.row = [x]))) ∧ Mod (fun _ => False) W w' from fun W hW hWx => by
        have := iequal_any D (fun b => b = wr.heap.size) y.A (some ⟨wr.heap.size, 0, none⟩) y.c 1 (natI y.x.row) [x] W (hro.mod (MW.trans' hW) fun b hb => ⟨HD.out b hb, id⟩) (Rd.one hWx rfl) (by rw [natI_len]; unfold maxLen; omega) (by simp [maxLen]) (fun b hb => by have := HD.out b hb; have := MW.size; have := hW.size; omega) (fun b hb => by subst hb; exact hp_lt hWx)
        rwa [natI_len] at this)
      have HT := Lib.hid (show (ks.take (k + 1)).filter (chgP ls) = (ks.take k).filter (chgP ls) ++ if chgP ls x then [x] else [] by rw [hx]; exact filter_take _ hkx)
      have hz : chgP ls x = !(decide (natI y.x.row = [x])) := by unfold chgP; rw [hf]
      rw [hz] at HT
      have cU := hp_cell HQ1.out 0
      have hs0 := HM.out.size
      clear hx hg hf hlen hro hz MW
      generalize decide (natI y.x.row = [x]) = z at HE HT
      cases z
      · have hlenT : ((ks.take k).filter (chgP ls)).length ≤ 1000000 := by
          have := List.length_filter_le (chgP ls) (ks.take k)
          rw [List.length_take] at this; omega
        have HLT := Lib.hid hlenT
        clear hlenT
        go_wp2_with (first
          | (go_at_call 41
             (with_reducible refine (HE.out _ (by (repeat' (with_reducible (first | exact Mod.refl _ _ | assumption | refine Mod.alloc ?_ _ | refine Mod.drew ?_ | refine Mod.drewN ?_ _ | refine Mod.setCell ?_ (by first | exact Or.inl rfl | (right; simp; done) | (right; simp; omega) | (left; simp; done)) _)))) (hp_new _ _)).mono ?_)
             rintro e w4 ⟨rfl, hm4⟩
             have M4 : Mod (fun _ => False) wr w4 := Mod.trans' (by (repeat' (first | exact Mod.refl _ _ | assumption | refine Mod.alloc ?_ _ | refine Mod.drew ?_ | refine Mod.drewN ?_ _ | refine Mod.setCell ?_ (by first | exact Or.inl rfl | (right; simp; done) | (right; simp; omega) | (left; simp; done)) _))) hm4
             have hU4 := hp_mod HQ1.out M4 id
             have cU4 := hp_cell hU4 0
             have HU4 := Lib.hid hU4
             have HM4 := Lib.hid M4
             have HO4 := Lib.hid (HO.out.mod M4 fun _ _ => id)
             have hs4 := M4.size
             clear hm4 M4 hU4)
          | (at_builtin
             refine wpList_app (base := w3.heap.size) (xs := (ks.take k).filter (chgP ls)) (ys := [x]) (D := fun b => b = w4.heap.size) rfl (.tmp 29) (.tmp 31) rfl i32s_t csI_len csI_one rfl (HO4.out.mod ((Mod.refl (fun _ => False) w4).alloc _) fun _ _ => id) 1 rfl rfl (Rd.one (hp_new _ _) rfl) ?_ ?_ ?_ ?_
             · have := HLT.out; simp [maxLen]; omega
             · have := HLT.out; simp; omega
             · simp; omega
             intro v' w5 hown5 hm5 _
             obtain ⟨A5, c5, hv5, -, hf5, -⟩ := hown5.rd csI_len
             obtain ⟨m5, hl5⟩ : ∃ m5, m5 = ((ks.take k).filter (chgP ls) ++ [x]).length := ⟨_, rfl⟩
             rw [← hl5] at hv5
             subst hv5
             clear hl5
             have hU5 : w5.heap[B + 1]? = some (.cells #[u] 22 (0, 0)) := hp_mod (hp_alloc HU4.out _) hm5 (fun h => by have := (HO4.out.fresh _ h).1; omega)
             have cU5 := hp_cell hU5 0
             have fU5 := hp_free hU5 0
             have HU5 := Lib.hid hU5
             have HM5 := Lib.hid (show Mod (fun b => b = B + 1) w3 w5 from ((HM.out.trans (HM4.out.alloc _) fun _ h => h.elim).trans hm5 fun b h => .inr (HO4.out.fresh b h).1))
             have HO5 := Lib.hid hown5
             clear hm5 hown5 hU5)
          | fail)
        refine ⟨⟨k + 1, _, by omega, by go_num, hp_eq (hp_set HU5.out 0 _) rfl, ?_, HM5.out.setCell (p := ⟨B + 1, 0, none⟩) (.inl rfl) _⟩, by simp only [intOf]; omega⟩
        rw [show (ks.take (k + 1)).filter (chgP ls) = (ks.take k).filter (chgP ls) ++ [x] from HT.out]
        refine HO5.out.keep ((Mod.refl (fun b => b = B + 1) w5).setCell (p := ⟨B + 1, 0, none⟩) (.inl rfl) _ |>.agree fun b hb => ⟨(HO5.out.fresh b hb).2, fun e => by have := (HO5.out.fresh b hb).1; omega⟩)
      · go_wp2_with (first
          | (go_at_call 41
             (with_reducible refine (HE.out _ (by (repeat' (with_reducible (first | exact Mod.refl _ _ | assumption | refine Mod.alloc ?_ _ | refine Mod.drew ?_ | refine Mod.drewN ?_ _ | refine Mod.setCell ?_ (by first | exact Or.inl rfl | (right; simp; done) | (right; simp; omega) | (left; simp; done)) _)))) (hp_new _ _)).mono ?_)
             rintro e w4 ⟨rfl, hm4⟩
             have HM4 := Lib.hid (show Mod (fun _ => False) wr w4 from Mod.trans' (by (repeat' (first | exact Mod.refl _ _ | assumption | refine Mod.alloc ?_ _ | refine Mod.drew ?_ | refine Mod.drewN ?_ _ | refine Mod.setCell ?_ (by first | exact Or.inl rfl | (right; simp; done) | (right; simp; omega) | (left; simp; done)) _))) hm4)
             clear hm4)
          | fail)
        refine ⟨⟨k + 1, u, by omega, by go_num, hp_mod HQ1.out HM4.out id, ?_, HM.out.trans HM4.out fun _ h => h.elim⟩, by simp only [intOf]; omega⟩
        rw [HT.out]
        simpa using HO.out.mod HM4.out fun _ _ => id
    · obtain rfl : k = n := by omega
      have HE := Lib.hid (show (ks.take k).filter (chgP ls) = chgL ls by rw [HN.out, List.take_length]; exact HC.out)
      rw [HE.out] at HO
      have hl1 := hp_lt HQ1.out
      go_wp2
      go_ret
      exact ⟨B + 1, B, u, rfl, by rw [HB.out]; exact Nat.le_refl _, by omega, hl1, HQ1.out, hp_mod HQ0.out HM.out (by omega), HO.out.less (by omega), HM3.out.trans HM.out fun b hb => .inr (by have := HB.out; omega)⟩

/-! ### The iterator -/
def foldIt (ls : List FL) (D : Nat → Prop) : It :=
  ⟨(chgL ls).length, 2, fun k enc R W => ∃ A c, enc = #[.int .i32 (at_ (chgL ls) k), .slice A (fullL ls (at_ (chgL ls) k)).length c] ∧ Rd R W 1 csI A (fullL ls (at_ (chgL ls) k)), D, fun _ => False, fun _ _ => True⟩
theorem foldIt_ok {ls : List FL} {D : Nat → Prop} : (foldIt ls D).Ok :=
  ⟨fun k enc R W ⟨A, c, h, _⟩ => by rw [h]; rfl, fun k enc R W W' ⟨A, c, h1, h2⟩ hA => ⟨A, c, h1, h2.keep hA⟩, fun _ _ _ _ _ => trivial, fun _ h => h.elim⟩
set_option maxRecDepth 100000 in
set_option maxHeartbeats 2000000 in
theorem dall1_iter (bl bf c : Nat) (A : Option Addr) (v : Value) (hs : List FH) (ls : List FL) (hls : hs.map FH.x = ls) (D : Nat → Prop) (w : World) (hbl : w.cell? ⟨bl, 0, none⟩ = some (.slice A (chgL ls).length c)) (hbf : w.cell? ⟨bf, 0, none⟩ = some v)
    (d1 : D bl) (d2 : D bf) (hDl : ∀ b, D b → b < w.heap.size) (hR : Rd D w 1 csI A (chgL ls)) (hF : FoldIn D w v hs) (hlen : (chgL ls).length ≤ 1000000) :
    IterG Tryz.prog 44 #[ptrV bl, ptrV bf] (foldIt ls D) w := by
  intro y J Jx C0 W hAg _ hC hJ hJx hY h0 _
  have hbl' := (hAg.cell (p := ⟨bl, 0, none⟩) d1).trans hbl
  have hbf' := (hAg.cell (p := ⟨bf, 0, none⟩) d2).trans hbf
  obtain ⟨xs, hxs⟩ : ∃ xs, xs = chgL ls := ⟨_, rfl⟩
  have HY := Lib.hid hY
  simp only [foldIt, ← hxs] at HY
  have hgoal : (foldIt ls D).n = xs.length := by rw [hxs]; rfl
  have hE : (foldIt ls D).E = fun _ => False := rfl
  have hS : (foldIt ls D).S = fun _ _ => True := rfl
  rw [hgoal, hE, hS]
  rw [← hxs] at hbl' hlen hR
  obtain ⟨n, hn⟩ : ∃ n, n = xs.length := ⟨_, rfl⟩
  rw [← hn] at hbl' hlen ⊢
  have HN := Lib.hid hn
  have HRd := Lib.hid (hR.keep hAg)
  have HF := Lib.hid (hF.keep hAg)
  have HDl := Lib.hid (show ∀ b, D b → b < W.heap.size from fun b hb => Nat.lt_of_lt_of_le (hDl b hb) hAg.size)
  have HC := Lib.hid (show ∀ b, C0 b → b < W.heap.size ∧ ¬ D b from fun b hb => ⟨(hC b hb).1, (hC b hb).2.1⟩)
  have HBF := Lib.hid hbf'
  have HBl := Lib.hid hls
  have hbfl := cell_lt hbf'
  have HD2 := Lib.hid d2
  clear hY hbl hbf hC hR hF hDl hAg hxs hn hgoal hE hS hbf' hls d1 d2
  refine callsIn_wide.1 (callsIn_of_wp (n := 0) (F := Fence.wide) Tryz.func44 rfl trivial ?_ rfl)
  simp only [Tryz.ntmps44, List.size_toArray, List.length_cons, List.length_nil, Nat.reduceAdd, Nat.reduceSub, Array.replicate_succ, Array.replicate_zero, List.push_toArray, List.append_toArray, List.nil_append, List.cons_append]
  gi_wp2
  gi_loopw [8] (fun i wr => ∃ (k : Nat) (C : Nat → Prop), k ≤ n ∧ i = .int .i64 k ∧ J k C wr ∧ Mod C0 W wr ∧ (∀ b, C b → b < wr.heap.size ∧ (C0 b ∨ W.heap.size ≤ b))) (fun i _ => n - (intOf i).toNat)
  case atStart => exact ⟨0, C0, Nat.zero_le _, rfl, h0, Mod.refl _ _, fun b hb => ⟨(HC.out b hb).1, .inl hb⟩⟩
  case round =>
    obtain ⟨k, C, hk, rfl, hj, hm, hb⟩ := hrel
    have HM := Lib.hid hm
    have HB := Lib.hid hb
    clear hbl' hm hb
    by_cases hlt : k < n
    · have hkx : k < xs.length := by rw [← HN.out]; exact hlt
      obtain ⟨b, off, hA, -, q1⟩ := rdI (HRd.out.mod HM.out (fun b hb => ⟨HDl.out b hb, fun h => (HC.out b h).2 hb⟩)) hkx
      have hA := hA
      subst hA
      obtain ⟨x, hx⟩ : ∃ x, x = xs[k] := ⟨_, rfl⟩
      rw [← hx] at q1
      have hat : at_ xs k = x := by rw [hx]; exact at_lt hkx
      have cF := cell_mod HBF.out HM.out (fun h => (HC.out bf h).2 HD2.out)
      have HX := Lib.hid hat
      have HFull := Lib.hid (show Calls Tryz.prog 15 #[v, .int .i32 x] wr fun e w' => ∃ u, e = .returned u ∧ OwnS wr.heap.size 21 1 csI w' u (fullL ls x) ∧ Mod (fun _ => False) wr w' by
        rw [← HBl.out]
        exact dfull_any D v hs x wr (HF.out.mod HM.out fun b hb => ⟨HDl.out b hb, fun h => (HC.out b h).2 hb⟩))
      clear hx hat
      gi_wp2_with (first
        | ((refine ⟨trivial, rfl, ?_⟩; gi_at_call 15)
           refine ci HFull.out ?_
           rintro e w1 ⟨u, rfl, ho, hm1⟩
           obtain ⟨A1, c1, hu, hr1, hf1, -⟩ := ho.rd csI_len
           subst hu
           obtain ⟨fn, tmps, assign, body, hy, hR⟩ := HY.out k hkx #[.int .i32 x, .slice A1 (fullL ls x).length c1] (fun b => wr.heap.size ≤ b ∧ b < w1.heap.size) C w1 (hJ _ _ _ _ hj (hm1.agree fun b h => ⟨(HB.out b h).1, id⟩)) trivial ⟨A1, c1, by rw [HX.out], by rw [HX.out]; exact hr1.mono fun b hb => hf1 b hb⟩ (fun b hb => ⟨hb.2, fun h => by have := (HB.out b h).1; have := hb.1; omega⟩) ((HM.out.trans hm1 fun _ h => h.elim).mono fun _ _ h => .inl h) (fun b h => ⟨Nat.lt_of_lt_of_le (HB.out b h).1 hm1.size, (HB.out b h).2⟩)
           have HM1 := Lib.hid hm1
           clear ho hm1 hr1 hf1)
        | fail)
      refine ⟨rfl, (hR _).mono ?_⟩
      have hs1 := HM1.out.size
      have hs2 := HM.out.size
      rintro e W3 (⟨rfl, C', hJ3, hm3, hb3⟩ | ⟨rfl, C', hJ3, hm3, hb3⟩)
      all_goals
        have M3 := (HM.out.trans HM1.out (fun b h => h.elim)).trans hm3 (fun b h => (HB.out b h).2)
        have B3 : ∀ b, C' b → b < W3.heap.size ∧ (C0 b ∨ W.heap.size ≤ b) := fun b h => ⟨(hb3 b h).1, (hb3 b h).2.elim (fun h => (HB.out b h).2) (fun h => .inr (by omega))⟩
      · gi_wp2
        go_roundw
        case rel => exact ⟨k + 1, C', by omega, by go_num, hJ3, M3, B3⟩
        case measure => simp only [intOf]; omega
      · gi_wp2
        refine bodyPost_ret (results_none rfl _ _ _) rfl ?_
        exact ⟨⟨_, rfl⟩, .inr ⟨k + 1, by omega, by omega, trivial, C', hJ3, M3.mono fun _ _ h => .inl h, B3⟩⟩
    · obtain rfl : k = n := by omega
      gi_wp2
      go_end0
      exact ⟨⟨_, rfl⟩, .inl ⟨trivial, C, hj, HM.out.mono fun _ _ h => .inl h, HB.out⟩⟩
end Go.Proofs.YtidbgfmknhlmnaaGreatDoor
/-
  How many code points change; whether what they are folded to stays.
-/
namespace Go.Proofs.YtidbgfmknhlmnaaGreatDoor
open Go.RowKit Go.Shelf Go.Sort
attribute [local go_sem] Oper.semAt_some

theorem chgL_len (ls : List FL) : (chgL ls).length ≤ ls.length := by
  have h := (chgL_perm ls).length_eq
  rw [List.length_map] at h
  have := List.length_filter_le moves ls
  omega
theorem dallI_any (D : Nat → Prop) (v : Value) (hs : List FH) (ls : List FL) (hls : hs.map FH.x = ls) (w : World) (hF : FoldIn D w v hs) (hD : ∀ b, D b → b < w.heap.size) (hlen : hs.length ≤ 1000000) :
    Calls Tryz.prog 27 #[v] w fun e w1 => ∃ bl bf, e = .returned (.func (.func 44) #[] #[ptrV bl, ptrV bf]) ∧ IterG Tryz.prog 44 #[ptrV bl, ptrV bf] (foldIt ls (fun b => D b ∨ (w.heap.size ≤ b ∧ b < w1.heap.size))) w1 ∧ Mod (fun _ => False) w w1 := by
  refine (dall_any D v hs w hF hD hlen).mono ?_
  rintro e w1 ⟨bl, bf, ul, rfl, p1, p2, p3, p4, p5, p6, p7⟩
  rw [hls] at p6
  obtain ⟨Au, cu, rfl, hru, hfu, -⟩ := p6.rd csI_len
  refine ⟨bl, bf, rfl, dall1_iter bl bf cu Au v hs ls hls _ w1 (hp_cell p4 0) (hp_cell p5 0) (.inr ⟨by omega, by omega⟩) (.inr ⟨by omega, by omega⟩) (fun b hb => ?_) (hru.mono fun b hb => .inr ?_) ((hF.mod p7 fun b hb => ⟨hD b hb, id⟩).mono fun b hb => .inl hb) ?_, p7⟩
  · rcases hb with hb | hb
    · exact Nat.lt_of_lt_of_le (hD b hb) p7.size
    · exact hb.2
  · have := hfu b hb; omega
  · have h1 := chgL_len ls
    have h2 : ls.length = hs.length := by rw [← hls, List.length_map]
    omega
def ctI (z : Nat) (k : Nat) (C : Nat → Prop) (W : World) : Prop := W.heap[z]? = some (.cells #[.int .i64 (k : Int)] 3 (0, 0)) ∧ C = fun b => b = z
def noX (_ : Code) (_ : Nat) (_ : Nat → Prop) (_ : World) : Prop := False
def ctA (z : Nat) (T enc : Array Value) (a' : Act) (k : Nat) (C : Nat → Prop) (W : World) : Prop := ∃ v0 v1, enc = #[v0, v1] ∧ a' = { tmps := (T.setIfInBounds 6 v0).setIfInBounds 7 v1, defers := [] } ∧ ctI z k C W
set_option maxRecDepth 100000 in
set_option maxHeartbeats 1000000 in
theorem dlen_any (D : Nat → Prop) (v : Value) (hs : List FH) (ls : List FL) (hls : hs.map FH.x = ls) (w : World) (hF : FoldIn D w v hs) (hD : ∀ b, D b → b < w.heap.size) (hlen : hs.length ≤ 1000000) :
    Calls Tryz.prog 25 #[v] w fun e w' => e = .returned (.int .i64 (chgL ls).length) ∧ Mod (fun _ => False) w w' := by
  have hcl := chgL_len ls
  have hll : ls.length ≤ 1000000 := by rw [← hls, List.length_map]; exact hlen
  obtain ⟨N, hN⟩ : ∃ N, N = (chgL ls).length := ⟨_, rfl⟩
  have hNl : N ≤ 1000000 := by omega
  have HAll := Lib.hid (fun X (hX : Mod (fun _ => False) w X) => dallI_any D v hs ls hls X (hF.mod hX fun b hb => ⟨hD b hb, id⟩) (fun b hb => Nat.lt_of_lt_of_le (hD b hb) hX.size) hlen)
  rw [← hN]
  have HN := Lib.hid hN
  have HD := Lib.hid hD
  clear hls hN hF hD hlen hcl hll
  refine callsIn_wide.1 (callsIn_of_wp_marks (n := 0) (F := Fence.wide) Tryz.func25 rfl trivial ?_ rfl)
  simp only [Tryz.ntmps25, List.size_toArray, List.length_cons, List.length_nil, Nat.reduceAdd, Nat.reduceSub, Array.replicate_succ, Array.replicate_zero, List.push_toArray, List.append_toArray, List.nil_append, List.cons_append]
  gi_wp2_with (first
    | ((refine ⟨trivial, rfl, ?_⟩; gi_at_call 27); (with_reducible refine ci (HAll.out _ (by (repeat' (with_reducible (first | exact Mod.refl _ _ | assumption | refine Mod.alloc ?_ _ | refine Mod.drew ?_ | refine Mod.drewN ?_ _ | refine Mod.setCell ?_ (by first | exact Or.inl rfl | (right; simp; done) | (right; simp; omega) | (left; simp; done)) _))))) ?_); rintro e w1 ⟨bl, bf, rfl, hit, p7⟩)
    | fail)
  obtain ⟨B, hB⟩ : ∃ B, B = w.heap.size := ⟨_, rfl⟩
  have q0 : w1.heap[w.heap.size]? = some (.cells #[.int .i64 0] 3 (0, 0)) := hp_mod (by (repeat' (first | exact hp_new _ _ | exact hp_at _ _ (by simp; done) | refine hp_alloc ?_ _ | refine hp_drew ?_ | refine hp_drewN ?_ _ | apply hp_set | refine hp_far ?_ (by first | (simp; omega) | (simp; done)) _))) p7 id
  have M1 : Mod (fun _ => False) w w1 := Mod.trans' (by (repeat' (first | exact Mod.refl _ _ | assumption | refine Mod.alloc ?_ _ | refine Mod.drew ?_ | refine Mod.drewN ?_ _ | refine Mod.setCell ?_ (by first | exact Or.inl rfl | (right; simp; done) | (right; simp; omega) | (left; simp; done)) _))) p7
  have hs1 := p7.size
  simp only [World.size_alloc] at hs1
  rw [← hB] at q0 hs1 ⊢
  have HM1 := Lib.hid M1
  have HB := Lib.hid hB
  clear hB
  refine wp_rangeG (gf := 44) (lb := #[ptrV bl, ptrV bf]) rfl (enters_of Tryz.func44 (by kernel_rfl) rfl) foldIt_ok hit
    (fun b hb => by
      rcases hb with (hb | hb) | h
      · have := HD.out b hb; have := HB.out; omega
      · exact hb.2
      · exact h.elim) rfl
    (ctI B) noX (ctA B) (fun k C X Y ⟨h1, h2⟩ hA => ⟨hp_agree h1 hA (by rw [h2]), h2⟩) (fun c k C X Y h hA => h)
    (fun T enc a' k C X Y ⟨v0, v1, h0, h1, h2, h3⟩ hA => ⟨v0, v1, h0, h1, hp_agree h2 hA (by rw [h3]), h3⟩)
    (fun b => b = B) (fun b hb => by
      subst hb
      refine ⟨by omega, fun hd => ?_, id⟩
      rcases hd with hd | hd
      · have := HD.out _ hd; have := HB.out; omega
      · have h9 := hd.1; have := HB.out; simp at h9; omega) ⟨q0, rfl⟩ trivial ?assign ?body ?done (fun _ _ _ _ _ _ h => h.elim)
  case assign =>
    rintro l' k hk enc R C W' ⟨h1, rfl⟩ - ⟨A, c, rfl, -⟩ - hm' hb'
    have H1 := Lib.hid h1
    clear h1 q0
    gi_wp2
    exact ⟨fun b => b = B, ⟨_, _, rfl, rfl, H1.out, rfl⟩, Mod.refl _ _, fun b hb => ⟨(hb' b hb).1, .inl hb⟩⟩
  case body =>
    rintro l' k hk enc R C a' W' ⟨v0, v1, rfl, rfl, h1, rfl⟩ - - - hm' hb' - - -
    have hk : k < (chgL ls).length := hk
    have hkN : k < N := by rw [HN.out]; exact hk
    have c0 := hp_cell h1 0
    have f0 := hp_free h1 0
    have hlt := hp_lt h1
    have H1 := Lib.hid h1
    clear h1 hk q0
    gi_wp2
    exact ⟨fun b => b = B, ⟨hp_eq (hp_set H1.out 0 _) (by simp), rfl⟩, by (repeat' (first | exact Mod.refl _ _ | assumption | refine Mod.alloc ?_ _ | refine Mod.drew ?_ | refine Mod.drewN ?_ _ | refine Mod.setCell ?_ (by first | exact Or.inl rfl | (right; simp; done) | (right; simp; omega) | (left; simp; done)) _)), fun b hb => by subst hb; exact ⟨by simpa [World.setCell] using hlt, .inl rfl⟩⟩
  case done =>
    rintro W' C' ⟨h1, rfl⟩ _ hm' hb' hK hn'
    have h1 : W'.heap[B]? = some (.cells #[.int .i64 ((chgL ls).length : Int)] 3 (0, 0)) := h1
    rw [← HN.out] at h1
    have c0 := hp_cell h1 0
    have HM' := Lib.hid hm'
    clear hm' q0
    gi_wp2
    refine endM1 rfl hK (results_tmp rfl _ _ _) ⟨rfl, ?_⟩
    refine Mod.putObj (HM1.out.trans HM'.out (fun b hb => ?_)) (.inr HM1.out.size) _
    rcases hb with h | h
    · have := HB.out; right; omega
    · exact h.elim
/-! ### Still -/
theorem stillL_take {ls : List FL} {k : Nat} (h : k < (chgL ls).length) : ((chgL ls).take (k + 1)).all (fun r => textL ls (fullL ls r) == fullL ls r) = (((chgL ls).take k).all (fun r => textL ls (fullL ls r) == fullL ls r) && (textL ls (fullL ls (at_ (chgL ls) k)) == fullL ls (at_ (chgL ls) k))) := by
  rw [List.take_succ_eq_append_getElem h, List.all_append, at_lt h]; simp
def slI (ls : List FL) (rb : Nat) (k : Nat) (C : Nat → Prop) (W : World) : Prop := (∃ b, W.heap[rb]? = some (.cells #[.bool b] 4 (0, 0))) ∧ ((chgL ls).take k).all (fun r => textL ls (fullL ls r) == fullL ls r) = true ∧ C = fun b => b = rb
def slX (ls : List FL) (rb : Nat) (c : Code) (_k : Nat) (C : Nat → Prop) (W : World) : Prop := c = .ret ∧ W.heap[rb]? = some (.cells #[.bool false] 4 (0, 0)) ∧ stillL ls = false ∧ C = fun b => b = rb
def slA (ls : List FL) (rb : Nat) (T enc : Array Value) (a' : Act) (k : Nat) (C : Nat → Prop) (W : World) : Prop := ∃ v0 v1, enc = #[v0, v1] ∧ a' = { tmps := ((T.setIfInBounds 7 v0).setIfInBounds 8 v1).setIfInBounds 4 v1, defers := [] } ∧ slI ls rb k C W
set_option maxRecDepth 100000 in
set_option maxHeartbeats 2000000 in
theorem dstill_any (D : Nat → Prop) (v : Value) (hs : List FH) (ls : List FL) (hls : hs.map FH.x = ls) (w : World) (hF : FoldIn D w v hs) (hD : ∀ b, D b → b < w.heap.size) (hlen : hs.length ≤ 1000000) :
    Calls Tryz.prog 21 #[v] w fun e w' => e = .returned (.bool (stillL ls)) ∧ Mod (fun _ => False) w w' := by
  have HAll := Lib.hid (fun X (hX : Mod (fun _ => False) w X) => dallI_any D v hs ls hls X (hF.mod hX fun b hb => ⟨hD b hb, id⟩) (fun b hb => Nat.lt_of_lt_of_le (hD b hb) hX.size) hlen)
  have HD := Lib.hid hD
  have HF := Lib.hid hF
  have HLS := Lib.hid hls
  obtain ⟨p, rfl⟩ : ∃ p, v = .pointer p := by
    rcases hF with ⟨h, -⟩ | ⟨fb, h, -⟩ | ⟨fb, m1, m2, h, -⟩
    · exact ⟨_, h⟩
    · exact ⟨_, h⟩
    · exact ⟨_, h⟩
  clear hls hF hD hlen
  refine callsIn_wide.1 (callsIn_of_wp_marks (n := 0) (F := Fence.wide) Tryz.func21 rfl trivial ?_ rfl)
  simp only [Tryz.ntmps21, List.size_toArray, List.length_cons, List.length_nil, Nat.reduceAdd, Nat.reduceSub, Array.replicate_succ, Array.replicate_zero, List.push_toArray, List.append_toArray, List.nil_append, List.cons_append]
  gi_wp2_with (first
    | ((refine ⟨trivial, rfl, ?_⟩; gi_at_call 27); (with_reducible refine ci (HAll.out _ (by (repeat' (with_reducible (first | exact Mod.refl _ _ | assumption | refine Mod.alloc ?_ _ | refine Mod.drew ?_ | refine Mod.drewN ?_ _ | refine Mod.setCell ?_ (by first | exact Or.inl rfl | (right; simp; done) | (right; simp; omega) | (left; simp; done)) _))))) ?_); rintro e w1 ⟨bl, bf, rfl, hit, p7⟩)
    | fail)
  obtain ⟨B, hB⟩ : ∃ B, B = w.heap.size := ⟨_, rfl⟩
  have q0 : w1.heap[w.heap.size]? = some (.cells #[.pointer p] 24 (0, 0)) := hp_mod (by (repeat' (first | exact hp_new _ _ | exact hp_at _ _ (by simp; done) | refine hp_alloc ?_ _ | refine hp_drew ?_ | refine hp_drewN ?_ _ | apply hp_set | refine hp_far ?_ (by first | (simp; omega) | (simp; done)) _))) p7 id
  have q1 : w1.heap[w.heap.size + 1]? = some (.cells #[.bool false] 4 (0, 0)) := hp_mod (hp_at _ _ (by simp)) p7 id
  have M1 : Mod (fun _ => False) w w1 := Mod.trans' (by (repeat' (first | exact Mod.refl _ _ | assumption | refine Mod.alloc ?_ _ | refine Mod.drew ?_ | refine Mod.drewN ?_ _ | refine Mod.setCell ?_ (by first | exact Or.inl rfl | (right; simp; done) | (right; simp; omega) | (left; simp; done)) _))) p7
  have hs1 := p7.size
  have hit := hit
  simp only [World.size_alloc] at hs1 hit
  rw [← hB] at q0 q1 hs1 hit ⊢
  have HM1 := Lib.hid M1
  have HB := Lib.hid hB
  have HQ0 := Lib.hid q0
  clear hB q0 p7 M1
  refine wp_rangeG (gf := 44) (lb := #[ptrV bl, ptrV bf]) rfl (enters_of Tryz.func44 (by kernel_rfl) rfl) foldIt_ok hit
    (fun b hb => by
      rcases hb with (hb | hb) | h
      · have := HD.out b hb; have := HB.out; omega
      · exact hb.2
      · exact h.elim) rfl
    (slI ls (B + 1)) (slX ls (B + 1)) (slA ls (B + 1)) (fun k C X Y ⟨⟨b, h1⟩, h2, h3⟩ hA => ⟨⟨b, hp_agree h1 hA (by rw [h3])⟩, h2, h3⟩) (fun c k C X Y ⟨h0, h1, h2, h3⟩ hA => ⟨h0, hp_agree h1 hA (by rw [h3]), h2, h3⟩)
    (fun T enc a' k C X Y ⟨v0, v1, g0, g1, ⟨b, h1⟩, h2, h3⟩ hA => ⟨v0, v1, g0, g1, ⟨b, hp_agree h1 hA (by rw [h3])⟩, h2, h3⟩)
    (fun b => b = B + 1) (fun b hb => by
      subst hb
      refine ⟨by omega, fun hd => ?_, id⟩
      rcases hd with hd | hd
      · have := HD.out _ hd; have := HB.out; omega
      · have := hd.1; omega) ⟨⟨false, q1⟩, rfl, rfl⟩ trivial ?assign ?body ?done ?stop
  case assign =>
    rintro l' k hk enc R C W' ⟨⟨b, h1⟩, h2, rfl⟩ - ⟨A, c, rfl, -⟩ - hm' hb'
    have H1 := Lib.hid h1
    have H2 := Lib.hid h2
    clear h1 h2 q1
    gi_wp2
    exact ⟨fun b => b = B + 1, ⟨_, _, rfl, rfl, ⟨b, H1.out⟩, H2.out, rfl⟩, Mod.refl _ _, fun b hb => ⟨(hb' b hb).1, .inl hb⟩⟩
  case body =>
    rintro l' k hk enc R C a' W' ⟨v0, v1, he, rfl, ⟨rb, h1⟩, h2, rfl⟩ - ⟨A, c, hen, hrd⟩ hR hm' hb' - - -
    have hk : k < (chgL ls).length := hk
    rw [hen] at he
    injection he with he
    injection he with he0 he
    injection he with he1 he
    subst he0 he1
    clear he hen
    obtain ⟨r, hr⟩ : ∃ r, r = at_ (chgL ls) k := ⟨_, rfl⟩
    have hst := stillL_take hk
    rw [h2, ← hr, Bool.true_and] at hst
    rw [← hr] at hrd ⊢
    have M' : Mod (fun b => b = B + 1) w1 W' := hm'.mono fun b _ h => h.elim id False.elim
    have MW : Mod (fun _ => False) w W' := HM1.out.trans M' fun b hb => .inr (by have := HB.out; omega)
    have c0 := hp_cell (hp_mod HQ0.out M' (by omega)) 0
    have hfl := fullL_len HF.out r
    rw [HLS.out] at hfl
    obtain ⟨xs, hxs⟩ : ∃ xs, xs = fullL ls r := ⟨_, rfl⟩
    rw [← hxs] at hst hrd hfl ⊢
    have hT := dtext_any D R (.pointer p) hs A c xs W' (HF.out.mod MW fun b hb => ⟨HD.out b hb, id⟩) (fun b hb => Nat.lt_of_lt_of_le (HD.out b hb) MW.size) hrd (fun b hb => (hR b hb).1) (by omega)
    rw [HLS.out] at hT
    have hTl : (textL ls xs).length ≤ 9 := by
      have := textL_le (ls := ls) (fun r => by have := fullL_len HF.out r; rwa [HLS.out] at this) xs
      omega
    have HT := Lib.hid hT
    have HRd := Lib.hid hrd
    have HRl := Lib.hid hR
    have HSt := Lib.hid hst
    have H1 := Lib.hid h1
    have HTl := Lib.hid hTl
    have HEnd := Lib.hid (show (textL ls xs == xs) = false → stillL ls = false from fun h => by
      unfold stillL
      rw [List.all_eq_false]
      refine ⟨at_ (chgL ls) k, by rw [at_lt hk]; exact List.getElem_mem _, ?_⟩
      rw [← hr, ← hxs, h]; simp)
    have hrl := hp_lt h1
    clear hT hrd hR hst h1 hTl hr hxs h2 q1 hm' MW
    obtain ⟨n, hn⟩ : ∃ n, n = xs.length := ⟨_, rfl⟩
    have HN := Lib.hid hn
    rw [← hn] at HT hfl ⊢
    clear hn
    obtain ⟨z, hz⟩ : ∃ z, z = (textL ls xs == xs) := ⟨_, rfl⟩
    rw [← hz] at HSt HEnd
    have HZ := Lib.hid (show decide (textL ls xs = xs) = z by rw [hz, Bool.eq_iff_iff]; simp)
    clear hz
    cases z
    all_goals
      gi_wp2_with (first
        | ((refine ⟨trivial, rfl, ?_⟩; gi_at_call 16)
           (with_reducible refine cir HT.out ?_)
           rintro e w2 ⟨u, rfl, ho, hm2⟩
           obtain ⟨A2, c2, hu, hr2, hf2, -⟩ := ho.rd csI_len
           subst hu
           have HE := Lib.hid (show Calls Tryz.prog 41 #[.slice A2 (textL ls xs).length c2, .slice A n c] w2 _ from by
             have := iequal_any _ R A2 A c2 c (textL ls xs) xs w2 hr2 (HRd.out.mod hm2 fun b hb => ⟨(HRl.out b hb).1, id⟩) (by unfold maxLen; have := HTl.out; omega) (by unfold maxLen; have := HN.out; omega) (fun b hb => (hf2 b hb).2) (fun b hb => Nat.lt_of_lt_of_le (HRl.out b hb).1 hm2.size)
             rw [HZ.out, ← HN.out] at this
             exact this)
           have HM2 := Lib.hid hm2
           clear ho hm2 hr2 hf2)
        | ((refine ⟨trivial, rfl, ?_⟩; gi_at_call 41)
           (with_reducible refine cir HE.out ?_)
           rintro e w3 ⟨rfl, hm3⟩
           have h3 := hp_mod (hp_mod H1.out HM2.out id) hm3 id
           have f3 := hp_free h3 0
           have c3 := hp_cell h3 0
           have H3 := Lib.hid h3
           have HM3 := Lib.hid (HM2.out.trans' hm3)
           clear hm3 h3)
        | fail)
    · refine ⟨fun b => b = B + 1, ⟨rfl, hp_eq (hp_set H3.out 0 _) (by simp), HEnd.out (by first | rfl | trivial), rfl⟩, (HM3.out.mono (C' := fun b => b = B + 1) fun _ _ h => h.elim).setCell (p := ⟨B + 1, 0, none⟩) (.inl rfl) _, fun b hb => ?_⟩
      subst hb
      have := HM3.out.size
      exact ⟨by simp [World.setCell]; omega, .inl rfl⟩
    · refine ⟨fun b => b = B + 1, ⟨⟨rb, H3.out⟩, HSt.out, rfl⟩, HM3.out.mono fun _ _ h => h.elim, fun b hb => ?_⟩
      subst hb
      have := HM3.out.size
      exact ⟨by omega, .inl rfl⟩
  case done =>
    rintro W' C' ⟨⟨b, h1⟩, h2, rfl⟩ _ hm' hb' hK hn'
    have HS := Lib.hid (show stillL ls = true by
      have h2 : ((chgL ls).take (chgL ls).length).all (fun r => textL ls (fullL ls r) == fullL ls r) = true := h2
      rw [List.take_length] at h2
      exact h2)
    have M' : Mod (fun b => b = B + 1) w1 W' := hm'.mono fun b _ h => h.elim id False.elim
    have f0 := hp_free h1 0
    have c0 := hp_cell h1 0
    have H1 := Lib.hid h1
    have HK := Lib.hid hK
    have HM' := Lib.hid M'
    clear h1 h2 hm' hb' hK hn' M' q1
    gi_wp2
    have hK2 := hp_far HK.out (p := ⟨B + 1, 0, none⟩) (show w1.heap.size ≠ B + 1 by omega) (.bool true)
    have hR := hp_eq (hp_set H1.out 0 (.bool true)) (cs' := #[.bool true]) (by simp)
    have hR2 : ((W'.setCell ⟨B + 1, 0, none⟩ (.bool true)).putObj w1.heap.size (.deferred none)).heap[B + 1]? = some (.cells #[.bool true] 4 (0, 0)) := by
      rw [World.putObj_heap_other (by omega)]; exact hR
    have hc := hp_cell hR2 0
    refine retM1 (v := .bool true) rfl hK2 ?_ ⟨by rw [HS.out], ?_⟩
    · simp [results, asAddr, go_sem] at hc ⊢
      rw [hc]
    · refine Mod.putObj ?_ (.inr HM1.out.size) _
      refine Mod.setCell ?_ (.inr (by have := HB.out; show w.heap.size ≤ B + 1; omega)) _
      exact HM1.out.trans HM'.out (fun b hb => by have := HB.out; subst hb; right; omega)
  case stop =>
    rintro W' C' cc k hk0 hk ⟨rfl, h2, h3, rfl⟩ _ hm' hb' hK hn'
    have M' : Mod (fun b => b = B + 1) w1 W' := hm'.mono fun b _ h => h.elim id False.elim
    have hR2 : (W'.putObj w1.heap.size (.deferred none)).heap[B + 1]? = some (.cells #[.bool false] 4 (0, 0)) := by
      rw [World.putObj_heap_other (by omega)]; exact h2
    have hc := hp_cell hR2 0
    have HS := Lib.hid h3
    have HM' := Lib.hid M'
    clear q1 hm' M' h2 h3
    gi_wp2
    refine retM1 (v := .bool false) rfl hK ?_ ⟨by rw [HS.out], ?_⟩
    · simp [results, asAddr, go_sem] at hc ⊢
      rw [hc]
    · refine Mod.putObj ?_ (.inr HM1.out.size) _
      exact HM1.out.trans HM'.out (fun b hb => by have := HB.out; subst hb; right; omega)
end Go.Proofs.YtidbgfmknhlmnaaGreatDoor
