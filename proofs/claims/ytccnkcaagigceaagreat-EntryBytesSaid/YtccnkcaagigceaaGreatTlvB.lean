/-
  The package tlv: a slice cloned, a writer's fault.
-/
import Derived.Test.YtccnkcaagigceaaGreatTlvA
namespace Go.Proofs.YtccnkcaagigceaaGreat
open Go.RowKit Go.Shelf
attribute [local go_sem] Oper.semAt_some

set_option maxHeartbeats 1000000 in
/-- slices.Clone of bytes: what comes back holds the same, in memory of the call's own. -/
theorem uclone_any (D : Nat → Prop) (A : Option Addr) (c : Nat) (xs : Bs) (w : World) (hA : Rd D w 1 csU A xs) (hl : xs.length ≤ 1099511627776) :
    Calls Tryz.prog 31 #[.slice A xs.length c] w fun e w' => ∃ A' c', e = .returned (.slice A' xs.length c') ∧ OwnS w.heap.size 5 1 csU w' (.slice A' xs.length c') xs ∧ Mod (fun _ => False) w w' := by
  obtain ⟨n, hn⟩ : ∃ n, n = xs.length := ⟨_, rfl⟩
  rw [← hn] at hl
  have HN := Lib.hid hn
  rcases A with _ | a
  · have h0 : xs = [] := by
      cases xs with
      | nil => rfl
      | cons y r => obtain ⟨b, off, h, _⟩ := hA (by simp); cases h
    subst h0
    have q22 := fun w n c => Lib.run_eql_slice_nil (P := Tryz.prog) w 25 5 none n c 0 0 Tryz.underlying25
    have H0 := Lib.hid (OwnS.nil w.heap.size 5 1 csU w)
    clear hn hA
    go_enter Tryz.func31, Tryz.ntmps31
    go_wp2
    go_ret
    exact ⟨none, 0, rfl, H0.out, Mod.refl _ _⟩
  · rw [← hn]
    have q22 := fun w n c => Lib.run_eql_slice_nil (P := Tryz.prog) w 25 5 (some a) n c 0 0 Tryz.underlying25
    have hmade := Lib.hid (World.ownsRow_made (base := w.heap.size) (e := 5) (size := 1) w #[] 0 (Nat.le_refl _) (Nat.zero_le _) (by simp))
    have HA := Lib.hid (show Rd (fun b => D b ∧ b < w.heap.size) w 1 csU (some a) xs from hA.lt csU_len (by decide))
    clear hn hA
    go_enter Tryz.func31, Tryz.ntmps31
    go_wp2_with (at_builtin
                 refine wpList_app (base := w.heap.size) (xs := []) (ys := xs) (D := fun b => D b ∧ b < w.heap.size) (v := .slice (some ⟨w.heap.size, 0, none⟩) 0 0) rfl (.tmp 5) (.tmp 6) rfl u8s_t csU_len csU_one rfl hmade.out _ rfl HN.out (HA.out.below ((Below.refl _ w).alloc (Nat.le_refl _) _) fun b h => h.2) ?_ ?_ ?_ ?_
                 · rw [← HN.out]; simp [maxLen]; omega
                 · rw [← HN.out]; simp; omega
                 · simp
                 intro v' w2 hown2 hm2 hat2
                 rw [List.nil_append] at hown2
                 obtain ⟨A2, c2, hv2, -, hfr2, hml2⟩ := OwnS.rd hown2 csU_len
                 rw [← HN.out] at hv2
                 subst hv2
                 have M2 := ((Mod.refl (fun _ => False) w).alloc (.cells #[] 5)).trans hm2 (fun b hb => by simp [Value.ownBlock] at hb; right; omega)
                 clear hm2)
    go_ret
    exact ⟨A2, c2, rfl, hown2, M2⟩

/-- A writer's fault is the first that it met. -/
def faultV (e k : Int) : Int := if e = 0 then k else e
theorem wfail_any (p T : Nat) (A : Option Addr) (n c : Nat) (e k : Int) (w : World) (hp : w.heap[p]? = some (.cells #[.slice A n c, .int .i64 e] T (0, 0))) :
    Calls Tryz.prog 54 #[.pointer (some ⟨p, 0, none⟩), .int .i64 k] w fun r w' => r = .returned (.pointer (some ⟨p, 0, none⟩)) ∧ w'.heap[p]? = some (.cells #[.slice A n c, .int .i64 (faultV e k)] T (0, 0)) ∧ Mod (fun b => b = p) w w' := by
  have q1 : w.cell? ⟨p, 0 + 1, none⟩ = some (.int .i64 e) := by rw [hp_cell hp]; rfl
  have q1' : w.cell? ⟨p, 1, none⟩ = some (.int .i64 e) := by rw [hp_cell hp]; rfl
  have f1 : w.frozen? ⟨p, 0 + 1, none⟩ = false := hp_free hp _
  have f1' : w.frozen? ⟨p, 1, none⟩ = false := hp_free hp _
  have HP := Lib.hid hp
  clear hp
  by_cases he : e = 0
  · subst he
    go_enter Tryz.func54, Tryz.ntmps54
    go_wp2
    go_ret
    exact ⟨rfl, hp_eq (hp_set HP.out 1 _) rfl, by (repeat' (first | exact Mod.refl _ _ | assumption | refine Mod.alloc ?_ _ | refine Mod.drew ?_ | refine Mod.drewN ?_ _ | refine Mod.setCell ?_ (by first | exact Or.inl rfl | (right; simp; done) | (right; simp; omega) | (left; simp; done)) _))⟩
  · have he1 : (e == 0) = false := by rw [beq_eq_false_iff_ne]; exact he
    have HE := Lib.hid (show faultV e k = e from if_neg he)
    go_enter Tryz.func54, Tryz.ntmps54
    go_wp2
    go_ret
    exact ⟨rfl, by rw [HE.out]; exact HP.out, Mod.refl _ _⟩
end Go.Proofs.YtccnkcaagigceaaGreat
