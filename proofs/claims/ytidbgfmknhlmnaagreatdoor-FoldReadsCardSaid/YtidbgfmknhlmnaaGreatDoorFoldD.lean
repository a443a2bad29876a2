/-
  Foldings asked: what a code point, and a text, is folded to.
-/
import Derived.Test.YtidbgfmknhlmnaaGreatDoorFoldC
import Derived.Test.YtidbgfmknhlmnaaGreatDoorSame
namespace Go.Proofs.YtidbgfmknhlmnaaGreatDoor
open Go.RowKit Go.Shelf Go.Sort
attribute [local go_sem] Oper.semAt_some

/-- A folding's pointer: not there, there without maps, or whole. -/
def FoldIn (D : Nat → Prop) (w : World) (v : Value) (hs : List FH) : Prop :=
  (v = .pointer none ∧ hs = []) ∨ (∃ fb, v = ptrV fb ∧ D fb ∧ w.cell? ⟨fb, 0, none⟩ = some (.map none) ∧ hs = []) ∨
  ∃ fb m1 m2, v = ptrV fb ∧ D fb ∧ D m1 ∧ D m2 ∧ FoldM w fb m1 m2 (fullM hs) (simpM hs) ∧ (∀ h ∈ hs, Rd D w 1 csI h.A (natI h.x.row)) ∧ GoodL (hs.map FH.x)
theorem FoldIn.keep {D : Nat → Prop} {w w' : World} {v : Value} {hs : List FH} (h : FoldIn D w v hs) (hA : Agree D w w') : FoldIn D w' v hs := by
  rcases h with h | ⟨fb, rfl, d0, h1, h2⟩ | ⟨fb, m1, m2, rfl, d0, d1, d2, h1, h2, h3⟩
  · exact .inl h
  · exact .inr (.inl ⟨fb, rfl, d0, (hA.cell (p := ⟨fb, 0, none⟩) d0).trans h1, h2⟩)
  · exact .inr (.inr ⟨fb, m1, m2, rfl, d0, d1, d2, h1.agree hA d0 d1 d2, fun x hx => (h2 x hx).keep hA, h3⟩)
theorem FoldIn.mono {D D' : Nat → Prop} {w : World} {v : Value} {hs : List FH} (h : FoldIn D w v hs) (hd : ∀ b, D b → D' b) : FoldIn D' w v hs := by
  rcases h with h | ⟨fb, rfl, d0, h1, h2⟩ | ⟨fb, m1, m2, rfl, d0, d1, d2, h1, h2, h3⟩
  · exact .inl h
  · exact .inr (.inl ⟨fb, rfl, hd _ d0, h1, h2⟩)
  · exact .inr (.inr ⟨fb, m1, m2, rfl, hd _ d0, hd _ d1, hd _ d2, h1, fun x hx => (h2 x hx).mono hd, h3⟩)
theorem FoldIn.mod {D C : Nat → Prop} {w w' : World} {v : Value} {hs : List FH} (h : FoldIn D w v hs) (hm : Mod C w w') (hd : ∀ b, D b → b < w.heap.size ∧ ¬ C b) : FoldIn D w' v hs := h.keep (hm.agree hd)
theorem fullL_nil (r : Int) : fullL [] r = [r] := rfl
theorem lenOk_le {s : Bs} {n : Nat} (h : lenOk s n = true) : 1 ≤ n ∧ n ≤ 3 := by
  unfold lenOk at h
  split at h
  · simp only [Bool.or_eq_true, decide_eq_true_eq] at h; omega
  · simp only [decide_eq_true_eq] at h; omega
theorem aloneL_len {x : FL} (h : aloneL x = true) : 1 ≤ x.row.length ∧ x.row.length ≤ 3 := by
  simp only [aloneL, Bool.and_eq_true] at h
  exact lenOk_le h.1.2
theorem full_find (hs : List FH) (r : Int) : (mGet r (fullM hs) = none ∧ fullL (hs.map FH.x) r = [r]) ∨ ∃ h ∈ hs, mGet r (fullM hs) = some h.sl ∧ fullL (hs.map FH.x) r = natI h.x.row := by
  induction hs with
  | nil => exact .inl ⟨rfl, rfl⟩
  | cons h t ih =>
    by_cases hc : isCF h.x = true
    · have e : fullM (h :: t) = ((h.x.R : Int), h.sl) :: fullM t := by simp [fullM, hc]
      rw [e, mGet_cons]
      by_cases hr : r = (h.x.R : Int)
      · right
        refine ⟨h, by simp, by rw [if_pos hr], ?_⟩
        unfold fullL
        rw [List.map_cons, List.find?_cons]
        simp [hr, hc]
      · rw [if_neg hr]
        have e2 : fullL ((h :: t).map FH.x) r = fullL (t.map FH.x) r := by
          unfold fullL
          rw [List.map_cons, List.find?_cons]
          have : decide ((h.x.R : Int) = r) = false := by simp; exact fun e => hr e.symm
          simp [this]
        rw [e2]
        rcases ih with ih | ⟨y, hy, ih⟩
        · exact .inl ih
        · exact .inr ⟨y, by simp [hy], ih⟩
    · have hc : isCF h.x = false := by simpa using hc
      have e : fullM (h :: t) = fullM t := by simp [fullM, hc]
      have e2 : fullL ((h :: t).map FH.x) r = fullL (t.map FH.x) r := by
        unfold fullL
        rw [List.map_cons, List.find?_cons]
        simp [hc]
      rw [e, e2]
      rcases ih with ih | ⟨y, hy, ih⟩
      · exact .inl ih
      · exact .inr ⟨y, by simp [hy], ih⟩
theorem simp_find (hs : List FH) (r : Int) : (mGet r (simpM hs) = none ∧ simpL (hs.map FH.x) r = r) ∨ mGet r (simpM hs) = some (.int .i32 (simpL (hs.map FH.x) r)) := by
  induction hs with
  | nil => exact .inl ⟨rfl, rfl⟩
  | cons h t ih =>
    by_cases hc : isCS h.x = true
    · have e : simpM (h :: t) = ((h.x.R : Int), .int .i32 (at_ (natI h.x.row) 0)) :: simpM t := by simp [simpM, hc]
      rw [e, mGet_cons]
      by_cases hr : r = (h.x.R : Int)
      · right
        rw [if_pos hr]
        unfold simpL
        rw [List.map_cons, List.find?_cons]
        have : decide ((h.x.R : Int) = r) = true := by simp [hr]
        simp only [this, hc, Bool.and_true]
        unfold at_
        cases natI h.x.row <;> rfl
      · rw [if_neg hr]
        have e2 : simpL ((h :: t).map FH.x) r = simpL (t.map FH.x) r := by
          unfold simpL
          rw [List.map_cons, List.find?_cons]
          have : decide ((h.x.R : Int) = r) = false := by simp; exact fun e => hr e.symm
          simp [this]
        rw [e2]; exact ih
    · have hc : isCS h.x = false := by simpa using hc
      have e : simpM (h :: t) = simpM t := by simp [simpM, hc]
      have e2 : simpL ((h :: t).map FH.x) r = simpL (t.map FH.x) r := by
        unfold simpL
        rw [List.map_cons, List.find?_cons]
        simp [hc]
      rw [e, e2]; exact ih
set_option maxHeartbeats 1000000 in
/-- slices.Clone: what comes back holds the same, in memory of the call's own. -/
theorem iclone_any (D : Nat → Prop) (A : Option Addr) (c : Nat) (xs : List Int) (w : World) (hA : Rd D w 1 csI A xs) (hl : xs.length ≤ 1099511627776) :
    Calls Tryz.prog 30 #[.slice A xs.length c] w fun e w' => ∃ A' c', e = .returned (.slice A' xs.length c') ∧ OwnS w.heap.size 21 1 csI w' (.slice A' xs.length c') xs ∧ Mod (fun _ => False) w w' := by
  obtain ⟨n, hn⟩ : ∃ n, n = xs.length := ⟨_, rfl⟩
  rw [← hn] at hl
  have HN := Lib.hid hn
  rcases A with _ | a
  · have h0 : xs = [] := by
      cases xs with
      | nil => rfl
      | cons y r => obtain ⟨b, off, h, _⟩ := hA (by simp); cases h
    subst h0
    have q22 := fun w n c => Lib.run_eql_slice_nil (P := Tryz.prog) w 22 21 none n c 0 0 Tryz.underlying22
    have H0 := Lib.hid (OwnS.nil w.heap.size 21 1 csI w)
    clear hn hA
    go_enter Tryz.func30, Tryz.ntmps30
    go_wp2
    go_ret
    exact ⟨none, 0, rfl, H0.out, Mod.refl _ _⟩
  · rw [← hn]
    have q22 := fun w n c => Lib.run_eql_slice_nil (P := Tryz.prog) w 22 21 (some a) n c 0 0 Tryz.underlying22
    have hmade := Lib.hid (World.ownsRow_made (base := w.heap.size) (e := 21) (size := 1) w #[] 0 (Nat.le_refl _) (Nat.zero_le _) (by simp))
    have HA := Lib.hid (show Rd (fun b => D b ∧ b < w.heap.size) w 1 csI (some a) xs from hA.lt csI_len (by decide))
    clear hn hA
    go_enter Tryz.func30, Tryz.ntmps30
    go_wp2_with (at_builtin
                 refine wpList_app (base := w.heap.size) (xs := []) (ys := xs) (D := fun b => D b ∧ b < w.heap.size) (v := .slice (some ⟨w.heap.size, 0, none⟩) 0 0) rfl (.tmp 5) (.tmp 6) rfl i32s_t csI_len csI_one rfl hmade.out _ rfl HN.out (HA.out.below ((Below.refl _ w).alloc (Nat.le_refl _) _) fun b h => h.2) ?_ ?_ ?_ ?_
                 · rw [← HN.out]; simp [maxLen]; omega
                 · rw [← HN.out]; simp; omega
                 · simp
                 intro v' w2 hown2 hm2 hat2
                 rw [List.nil_append] at hown2
                 obtain ⟨A2, c2, hv2, -, hfr2, hml2⟩ := OwnS.rd hown2 csI_len
                 rw [← HN.out] at hv2
                 subst hv2
                 have M2 := ((Mod.refl (fun _ => False) w).alloc (.cells #[] 21)).trans hm2 (fun b hb => by simp [Value.ownBlock] at hb; right; omega)
                 clear hm2)
    go_ret
    exact ⟨A2, c2, rfl, hown2, M2⟩
theorem run_neq_map {P : Program} (w : World) (t : TypeId) {kt et : TypeId} (ht : P.underlying t = some (.map kt et)) (m : Option Nat) : (binOp .neq t (.map m) (.map none)).run P w = .ok (.bool m.isSome) w := by
  have h' : ∀ d : Nat, (Op.equalIn (d + 1) t (.map m) (.map none)).run P w = .ok (m == none) w := fun d => by cases m <;> simp [Op.equalIn, run_underlying ht]
  simp only [binOp]
  simp [Op.equal, Op.maxDepth, h' 9999]
  try (cases m <;> simp)
theorem dthere_no (v : Value) (w : World) (h : v = .pointer none ∨ ∃ fb, v = ptrV fb ∧ w.cell? ⟨fb, 0, none⟩ = some (.map none)) : Calls Tryz.prog 29 #[v] w fun e w' => e = .returned (.bool false) ∧ w = w' := by
  rcases h with rfl | ⟨fb, rfl, h⟩
  · go_enter Tryz.func29, Tryz.ntmps29
    go_wp2
    go_ret
    exact ⟨rfl, rfl⟩
  · have hn := fun W => run_neq_map (P := Tryz.prog) W _ Tryz.underlying60 none
    go_enter Tryz.func29, Tryz.ntmps29
    go_wp2
    go_ret
    exact ⟨rfl, rfl⟩
theorem dthere_yes (fb m : Nat) (w : World) (h : w.cell? ⟨fb, 0, none⟩ = some (.map (some m))) : Calls Tryz.prog 29 #[ptrV fb] w fun e w' => e = .returned (.bool true) ∧ w = w' := by
  have hn := fun W => run_neq_map (P := Tryz.prog) W _ Tryz.underlying60 (some m)
  go_enter Tryz.func29, Tryz.ntmps29
  go_wp2
  go_ret
  exact ⟨rfl, rfl⟩
set_option maxRecDepth 100000 in
set_option maxHeartbeats 1000000 in
theorem dfull_any (D : Nat → Prop) (v : Value) (hs : List FH) (r : Int) (w : World) (hF : FoldIn D w v hs) :
    Calls Tryz.prog 15 #[v, .int .i32 r] w fun e w' => ∃ u, e = .returned u ∧ OwnS w.heap.size 21 1 csI w' u (fullL (hs.map FH.x) r) ∧ Mod (fun _ => False) w w' := by
  have hone : OwnS w.heap.size 21 1 csI (w.alloc (.cells #[.int .i32 r] 21)) (.slice (some ⟨w.heap.size, 0, none⟩) 1 1) [r] :=
    ⟨rfl, .inr ⟨w.heap.size, 1, #[.int .i32 r], rfl, Nat.le_refl _, hp_new _ _, by simp, by simp [maxLen], by simp, by simp [csI]⟩⟩
  have H1 := Lib.hid hone
  clear hone
  have hno : (v = .pointer none ∨ ∃ fb, v = ptrV fb ∧ w.cell? ⟨fb, 0, none⟩ = some (.map none)) → hs = [] → Calls Tryz.prog 15 #[v, .int .i32 r] w fun e w' => ∃ u, e = .returned u ∧ OwnS w.heap.size 21 1 csI w' u (fullL (hs.map FH.x) r) ∧ Mod (fun _ => False) w w' := by
    rintro h rfl
    have HT := Lib.hid (dthere_no v w h)
    clear h hF
    go_enter Tryz.func15, Tryz.ntmps15
    go_wp2_with (first | (go_at_call 29; (with_reducible refine HT.out.mono ?_); rintro e w2 ⟨rfl, rfl⟩) | fail)
    go_ret
    exact ⟨_, rfl, H1.out, by (repeat' (first | exact Mod.refl _ _ | assumption | refine Mod.alloc ?_ _ | refine Mod.drew ?_ | refine Mod.drewN ?_ _ | refine Mod.setCell ?_ (by first | exact Or.inl rfl | (right; simp; done) | (right; simp; omega) | (left; simp; done)) _))⟩
  rcases hF with ⟨rfl, h0⟩ | ⟨fb, rfl, d0, h1, h2⟩ | ⟨fb, m1, m2, rfl, d0, d1, d2, hM, hR, hG⟩
  · exact hno (.inl rfl) h0
  · exact hno (.inr ⟨fb, rfl, h1⟩) h2
  · clear hno
    have HT := Lib.hid (dthere_yes fb m1 w hM.c1)
    have c1 := hM.c1
    have hlk := run_mget (P := Tryz.prog) (w := w) kvK_t Tryz.underlying60 (z := .slice none 0 0) (by kernel_rfl) hM.h1 r true
    rcases full_find hs r with ⟨hg, hf⟩ | ⟨h, hh, hg, hf⟩
    · rw [hg] at hlk
      have HF := Lib.hid hf
      have hlk : (Instr.lookup 60 (.map (some m1)) (.int .i32 r) true).run Tryz.prog w = .ok (.tuple #[.slice none 0 0, .bool false]) w := hlk
      clear hf hg hM hR hG
      go_enter Tryz.func15, Tryz.ntmps15
      go_wp2_with (first | (go_at_call 29; (with_reducible refine HT.out.mono ?_); rintro e w2 ⟨rfl, rfl⟩) | fail)
      go_ret
      exact ⟨_, rfl, by rw [HF.out]; exact H1.out, by (repeat' (first | exact Mod.refl _ _ | assumption | refine Mod.alloc ?_ _ | refine Mod.drew ?_ | refine Mod.drewN ?_ _ | refine Mod.setCell ?_ (by first | exact Or.inl rfl | (right; simp; done) | (right; simp; omega) | (left; simp; done)) _))⟩
    · rw [hg] at hlk
      have hlen := aloneL_len (hG.alone h.x (List.mem_map_of_mem hh))
      have hcl := iclone_any D h.A h.c (natI h.x.row) w (hR h hh) (by rw [natI_len]; omega)
      rw [natI_len] at hcl
      have hlk : (Instr.lookup 60 (.map (some m1)) (.int .i32 r) true).run Tryz.prog w = .ok (.tuple #[.slice h.A h.x.row.length h.c, .bool true]) w := hlk
      rw [hf]
      have HC := Lib.hid hcl
      clear hf hg hM hR hG hcl hlen
      go_enter Tryz.func15, Tryz.ntmps15
      go_wp2_with (first | (go_at_call 29; (with_reducible refine HT.out.mono ?_); rintro e w2 ⟨rfl, rfl⟩) | (go_at_call 30; (with_reducible refine HC.out.mono ?_); rintro e w2 ⟨A', c', rfl, ho, hm⟩) | fail)
      go_ret
      exact ⟨_, rfl, ho, hm⟩
set_option maxRecDepth 100000 in
set_option maxHeartbeats 1000000 in
theorem dsimple_any (D : Nat → Prop) (v : Value) (hs : List FH) (r : Int) (w : World) (hF : FoldIn D w v hs) :
    Calls Tryz.prog 22 #[v, .int .i32 r] w fun e w' => e = .returned (.int .i32 (simpL (hs.map FH.x) r)) ∧ w = w' := by
  have hno : (v = .pointer none ∨ ∃ fb, v = ptrV fb ∧ w.cell? ⟨fb, 0, none⟩ = some (.map none)) → hs = [] → Calls Tryz.prog 22 #[v, .int .i32 r] w fun e w' => e = .returned (.int .i32 (simpL (hs.map FH.x) r)) ∧ w = w' := by
    rintro h rfl
    have HT := Lib.hid (dthere_no v w h)
    clear h hF
    go_enter Tryz.func22, Tryz.ntmps22
    go_wp2_with (first | (go_at_call 29; (with_reducible refine HT.out.mono ?_); rintro e w2 ⟨rfl, rfl⟩) | fail)
    go_ret
    exact ⟨rfl, rfl⟩
  rcases hF with ⟨rfl, h0⟩ | ⟨fb, rfl, d0, h1, h2⟩ | ⟨fb, m1, m2, rfl, d0, d1, d2, hM, hR, hG⟩
  · exact hno (.inl rfl) h0
  · exact hno (.inr ⟨fb, rfl, h1⟩) h2
  · clear hno
    have HT := Lib.hid (dthere_yes fb m1 w hM.c1)
    have c2 := hM.c2
    have hlk := run_mget (P := Tryz.prog) (w := w) kvK_t Tryz.underlying61 (z := .int .i32 0) (by kernel_rfl) hM.h2 r true
    obtain ⟨y, hy⟩ : ∃ y, y = simpL (hs.map FH.x) r := ⟨_, rfl⟩
    have hfind := simp_find hs r
    rw [← hy] at hfind ⊢
    rcases hfind with ⟨hg, rfl⟩ | hg
    · rw [hg] at hlk
      have hlk : (Instr.lookup 61 (.map (some m2)) (.int .i32 y) true).run Tryz.prog w = .ok (.tuple #[.int .i32 0, .bool false]) w := hlk
      clear hy hg hM hR hG
      go_enter Tryz.func22, Tryz.ntmps22
      go_wp2_with (first | (go_at_call 29; (with_reducible refine HT.out.mono ?_); rintro e w2 ⟨rfl, rfl⟩) | fail)
      go_ret
      exact ⟨rfl, rfl⟩
    · rw [hg] at hlk
      have hlk : (Instr.lookup 61 (.map (some m2)) (.int .i32 r) true).run Tryz.prog w = .ok (.tuple #[.int .i32 y, .bool true]) w := hlk
      clear hy hg hM hR hG
      go_enter Tryz.func22, Tryz.ntmps22
      go_wp2_with (first | (go_at_call 29; (with_reducible refine HT.out.mono ?_); rintro e w2 ⟨rfl, rfl⟩) | fail)
      go_ret
      exact ⟨rfl, rfl⟩
theorem fullL_len {hs : List FH} {D : Nat → Prop} {w : World} {v : Value} (hF : FoldIn D w v hs) (r : Int) : (fullL (hs.map FH.x) r).length ≤ 3 := by
  rcases hF with ⟨rfl, rfl⟩ | ⟨fb, rfl, d0, h1, rfl⟩ | ⟨fb, m1, m2, rfl, d0, d1, d2, hM, hR, hG⟩
  · simp [fullL]
  · simp [fullL]
  · rcases full_find hs r with ⟨-, hf⟩ | ⟨h, hh, -, hf⟩
    · rw [hf]; simp
    · rw [hf, natI_len]; exact (aloneL_len (hG.alone h.x (List.mem_map_of_mem hh))).2
theorem textL_take {ls : List FL} {xs : List Int} {k : Nat} (h : k < xs.length) : textL ls (xs.take (k + 1)) = textL ls (xs.take k) ++ fullL ls xs[k] := by
  unfold textL
  rw [List.take_succ_eq_append_getElem h, List.flatMap_append]
  simp
theorem textL_le {ls : List FL} (h : ∀ r, (fullL ls r).length ≤ 3) (xs : List Int) : (textL ls xs).length ≤ 3 * xs.length := by
  unfold textL
  induction xs with
  | nil => simp
  | cons x t ih => rw [List.flatMap_cons, List.length_append, List.length_cons]; have := h x; omega
set_option maxRecDepth 100000 in
set_option maxHeartbeats 1000000 in
theorem dtext_any (D D2 : Nat → Prop) (v : Value) (hs : List FH) (A : Option Addr) (c : Nat) (xs : List Int) (w : World) (hF : FoldIn D w v hs) (hD : ∀ b, D b → b < w.heap.size) (hA : Rd D2 w 1 csI A xs) (hD2 : ∀ b, D2 b → b < w.heap.size) (hl : xs.length ≤ 1000000) :
    Calls Tryz.prog 16 #[v, .slice A xs.length c] w fun e w' => ∃ u, e = .returned u ∧ OwnS w.heap.size 21 1 csI w' u (textL (hs.map FH.x) xs) ∧ Mod (fun _ => False) w w' := by
  obtain ⟨n, hn⟩ : ∃ n, n = xs.length := ⟨_, rfl⟩
  obtain ⟨ls, hls⟩ : ∃ ls, ls = hs.map FH.x := ⟨_, rfl⟩
  have HLen := Lib.hid (fun r => fullL_len hF r)
  rw [← hls] at HLen ⊢
  rw [← hn] at hl ⊢
  have HN := Lib.hid hn
  have HA := Lib.hid hA
  have HF := Lib.hid hF
  have HD := Lib.hid hD
  have HD2 := Lib.hid hD2
  have HLS := Lib.hid hls
  have H0 := Lib.hid (OwnS.nil w.heap.size 21 1 csI w)
  clear hn hA hF hD hD2 hls
  go_enter Tryz.func16, Tryz.ntmps16
  go_wp2
  go_loopw [5, 10] (fun u i wr => ∃ k : Nat, k ≤ n ∧ i = .int .i64 k ∧ OwnS w.heap.size 21 1 csI wr u (textL ls (xs.take k)) ∧ Mod (fun _ => False) w wr) (fun _ i _ => n - (intOf i).toNat)
  case atStart => exact ⟨0, Nat.zero_le _, rfl, H0.out, Mod.refl _ _⟩
  case round =>
    obtain ⟨k, hk, rfl, ho, hm⟩ := hrel
    have HO := Lib.hid ho
    have HM := Lib.hid hm
    clear ho hm
    by_cases hlt : k < n
    · have hkx : k < xs.length := by rw [← HN.out]; exact hlt
      obtain ⟨b, off, rfl, -, q1⟩ := rdI (HA.out.mod HM.out (fun b hb => ⟨HD2.out b hb, id⟩)) hkx
      obtain ⟨x, hx⟩ : ∃ x, x = xs[k] := ⟨_, rfl⟩
      rw [← hx] at q1
      have HT := Lib.hid (show textL ls (xs.take (k + 1)) = textL ls (xs.take k) ++ fullL ls x by rw [hx]; exact textL_take hkx)
      have HC := Lib.hid (show ∀ r, Calls Tryz.prog 15 #[v, .int .i32 r] wr fun e w' => ∃ u, e = .returned u ∧ OwnS wr.heap.size 21 1 csI w' u (fullL ls r) ∧ Mod (fun _ => False) wr w' from fun r => by
        rw [HLS.out]; exact dfull_any D v hs r wr (HF.out.mod HM.out fun b hb => ⟨HD.out b hb, id⟩))
      have HL := Lib.hid (show (textL ls (xs.take k)).length + (fullL ls x).length ≤ 6000000 by
        have h1 := textL_le HLen.out (xs.take k)
        have h2 := HLen.out x
        rw [List.length_take] at h1
        have h3 : n ≤ 1000000 := hl
        omega)
      clear hx
      go_wp2_with (first
        | (go_at_call 15
           (with_reducible refine (HC.out _).mono ?_)
           rintro e w2 ⟨u2, rfl, ho2, hm2⟩
           have HO2 := Lib.hid (HO.out.mod hm2 (fun _ _ => id))
           have HM2 := Lib.hid (HM.out.trans' hm2)
           have hs2 := HM2.out.size
           obtain ⟨A2, c2, hv2, hr2, hf2, -⟩ := ho2.rd csI_len
           subst hv2
           have HR2 := Lib.hid hr2
           clear ho2 hm2 hr2 hf2)
        | (at_builtin
           refine wpList_app (base := w.heap.size) (xs := textL ls (xs.take k)) (ys := fullL ls x) rfl (.tmp 14) (.tmp 17) rfl i32s_t csI_len csI_one rfl HO2.out _ rfl rfl HR2.out ?_ ?_ ?_ ?_
           · have := HL.out; simp only [maxLen]; omega
           · have := HL.out; omega
           · exact hs2
           intro v' w3 hown3 hm3 _
           have HO3 := Lib.hid hown3
           have HM3 := Lib.hid (HM2.out.trans hm3 (fun b hb => .inr (HO2.out.fresh b hb).1))
           clear hown3 hm3)
        | fail)
      exact ⟨⟨k + 1, by omega, by go_num, by rw [HT.out]; exact HO3.out, HM3.out⟩, by simp only [intOf]; omega⟩
    · obtain rfl : k = n := by omega
      have HE := Lib.hid (show xs.take k = xs by rw [HN.out]; exact List.take_length)
      rw [HE.out] at HO
      go_wp2
      go_ret
      exact ⟨_, rfl, HO.out, HM.out⟩
end Go.Proofs.YtidbgfmknhlmnaaGreatDoor
