/-
  What is wrong with a text, and the foldings of one.
-/
import Derived.Test.YtidbgfmknhlmnaaGreatDoorFoldD
import Derived.Test.YtidbgfmknhlmnaaGreatDoorFoldR
import Derived.Test.YtidbgfmknhlmnaaGreatDoorErrAs
namespace Go.Proofs.YtidbgfmknhlmnaaGreatDoor
open Go.RowKit Go.Shelf Go.Sort
attribute [local go_sem] Oper.semAt_some

/-- The library's word for the type 'error', as it lies. -/
def ErrT (w : World) : Prop := w.cell? ⟨0, 0, none⟩ = some (.iface 114 (.agg #[.pointer (some ⟨4, 43, none⟩)]))
theorem ErrT.mod {w w' : World} {C : Nat → Prop} (h : ErrT w) (hm : Mod C w w') (hc : ¬ C 0) : ErrT w' := cell_mod h hm hc
/-- What Check answers. -/
def CheckV (w w' : World) (e : Ending) : (List FL) ⊕ Nat → Prop
  | .inl _ => e = .returned .nilIface
  | .inr n => ∃ b, e = .returned (.iface 47 (ptrV b)) ∧ ErrAt w' b n 6 ∧ w.heap.size ≤ b
theorem dcheck_any (l : Bs) (w : World) (hl : l.length ≤ 1000000) (hmx : MaxVar w) : Calls Tryz.prog 17 #[.string ⟨l.toArray⟩] w fun e w' => CheckV w w' e (foldT l) ∧ Mod (fun _ => False) w w' := by
  have H := Lib.hid (fread_any l w hl hmx)
  clear hmx
  generalize foldT l = o at *
  cases o with
  | inl ls =>
    go_enter Tryz.func17, Tryz.ntmps17
    go_wp2_with (first | (go_at_call 28; (with_reducible refine H.out.mono ?_); rintro e w1 ⟨⟨fb, m1, m2, hs, rfl, -⟩, hm⟩) | fail)
    go_ret
    exact ⟨rfl, hm⟩
  | inr n =>
    go_enter Tryz.func17, Tryz.ntmps17
    go_wp2_with (first | (go_at_call 28; (with_reducible refine H.out.mono ?_); rintro e w1 ⟨⟨b, rfl, he, hb⟩, hm⟩) | fail)
    go_ret
    exact ⟨⟨b, rfl, he, hb⟩, hm⟩
/-- What Of answers. -/
def OfV (l : Bs) (w w' : World) (e : Ending) : (List FL) ⊕ Nat → Prop
  | .inl ls => ∃ (fb : Nat) (hs : List FH), e = .returned (.tuple #[ptrV fb, .int .i64 0]) ∧ hs.map FH.x = ls ∧ FoldIn (fun b => w.heap.size ≤ b ∧ b < w'.heap.size) w' (ptrV fb) hs ∧ hs.length ≤ l.length + 1
  | .inr _ => e = .returned (.tuple #[.pointer none, .int .i64 6])
theorem foldT_len {l : Bs} {ls : List FL} (h : foldT l = .inl ls) : ls.length ≤ l.length + 1 := by
  have h1 := readL_len _ _ _ h
  have h2 : (linesT l).length ≤ l.length + 1 := by unfold linesT; have := linesL_len 0 (splitC 10 l); have := splitC_len 10 l; omega
  simp only [List.length_nil] at h1
  omega
set_option maxRecDepth 100000 in
set_option maxHeartbeats 1000000 in
theorem dof_any (l : Bs) (w : World) (hl : l.length ≤ 1000000) (hmx : MaxVar w) (het : ErrT w) : Calls Tryz.prog 9 #[.string ⟨l.toArray⟩] w fun e w' => OfV l w w' e (foldT l) ∧ Mod (fun _ => False) w w' := by
  have H := Lib.hid (fread_any l w hl hmx)
  have HET := Lib.hid het
  obtain ⟨o, ho⟩ : ∃ o, o = foldT l := ⟨_, rfl⟩
  rw [← ho] at H ⊢
  have HO := Lib.hid ho
  clear hmx het ho
  cases o with
  | inl ls =>
    go_enter Tryz.func9, Tryz.ntmps9
    go_wp2_with (first
      | (go_at_call 28
         (with_reducible refine H.out.mono ?_)
         rintro e w1 ⟨⟨fb, m1, m2, hs, rfl, hls, hM, hR, h1, h2, h3⟩, hm⟩
         have HLS := Lib.hid hls
         have HMm := Lib.hid hM
         have HR := Lib.hid hR
         have HM := Lib.hid hm
         clear hls hM hR hm)
      | (go_at_call 19; refine (as_nil _ _).mono ?_; rintro e w2 ⟨rfl, rfl⟩)
      | fail)
    refine bodyPost_ret (v := .tuple #[ptrV fb, .int .i64 0]) (by simp [results, Tryz.results9, go_sem]) rfl ?_
    have MA : Mod (fun _ => False) w1 (w1.alloc (.cells #[.pointer none] 47)) := (Mod.refl _ _).alloc _
    refine ⟨⟨fb, hs, rfl, HLS.out, .inr (.inr ⟨fb, m1, m2, rfl, ⟨h1, ?_⟩, ⟨h2, ?_⟩, ⟨h3, ?_⟩, HMm.out.keep MA, fun x hx => ?_, ?_⟩), ?_⟩, HM.out.trans' MA⟩
    · exact Nat.lt_of_lt_of_le (cell_lt HMm.out.c1) MA.size
    · exact Nat.lt_of_lt_of_le (hp_lt HMm.out.h1) MA.size
    · exact Nat.lt_of_lt_of_le (hp_lt HMm.out.h2) MA.size
    · exact ((HR.out x hx).mod MA fun b hb => ⟨hb.2, id⟩).mono fun b hb => ⟨hb.1, Nat.lt_of_lt_of_le hb.2 MA.size⟩
    · rw [HLS.out]; exact GoodL.nil.read HO.out.symm
    · have := foldT_len HO.out.symm
      rw [← HLS.out, List.length_map] at this
      exact this
  | inr n =>
    go_enter Tryz.func9, Tryz.ntmps9
    go_wp2_with (first
      | (go_at_call 28
         (with_reducible refine H.out.mono ?_)
         rintro e w1 ⟨⟨b, rfl, he, hb⟩, hm⟩
         have HE := Lib.hid he
         have HM := Lib.hid hm
         have hg : (w1.alloc (.cells #[.pointer none] 47)).cell? ⟨0, 0, none⟩ = some (.iface 114 (.agg #[.pointer (some ⟨4, 43, none⟩)])) := (HET.out.mod hm id).mod ((Mod.refl (fun _ => False) w1).alloc _) id
         have HG := Lib.hid hg
         have HA := Lib.hid (as_hit ⟨b, 0, none⟩ ⟨w1.heap.size, 0, none⟩ (.pointer none) (w1.alloc (.cells #[.pointer none] 47)) hg (hp_cell (hp_new _ _) 0) (hp_free (hp_new _ _) 0))
         clear he hm hg)
      | (go_at_call 19
         (with_reducible refine HA.out.mono ?_)
         rintro ev w2 ⟨rfl, hw2⟩
         have M2 : Mod (fun _ => False) w1 w2 := by subst hw2; (repeat' (first | exact Mod.refl _ _ | assumption | refine Mod.alloc ?_ _ | refine Mod.drew ?_ | refine Mod.drewN ?_ _ | refine Mod.setCell ?_ (by first | exact Or.inl rfl | (right; simp; done) | (right; simp; omega) | (left; simp; done)) _))
         have k2 : w2.cell? ⟨w1.heap.size, 0, none⟩ = some (ptrV b) := by
           have := hp_cell (hp_set (hp_alloc (hp_alloc (hp_alloc (hp_alloc (hp_new w1 (.cells #[.pointer none] 47 (0, 0))) (.cells #[.pointer (some ⟨w1.heap.size, 0, none⟩)] 49 (0, 0))) (.cells #[.pointer (some ⟨4, 49, none⟩), .pointer (some ⟨(w1.alloc (.cells #[.pointer none] 47)).heap.size, 0, none⟩), .int .u64 150] 83 (0, 0))) (.cells #[.pointer (some ⟨4, 49, none⟩), .pointer (some ⟨(w1.alloc (.cells #[.pointer none] 47)).heap.size, 0, none⟩), .int .u64 150] 83 (0, 0))) (.cells #[ptrV b] 47 (0, 0))) 0 (ptrV b)) 0
           rw [hw2]
           simpa using this
         have k3 := hp_cell (hp_mod HE.out M2 id) 2
         have HM2 := Lib.hid M2
         clear hw2 M2)
      | fail)
    go_quiet (fail)
    go_wp2
    refine bodyPost_ret (v := .tuple #[.pointer none, .int .i64 6]) (by simp [results, Tryz.results9, go_sem]) rfl ?_
    exact ⟨rfl, (HM.out.trans' HM2.out).drewN _⟩
end Go.Proofs.YtidbgfmknhlmnaaGreatDoor
