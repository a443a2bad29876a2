/-
  The package tlv: a writer's end, a reader's begin, its parts.
-/
import Derived.Test.YtccnkcaagigceaaGreatTlvC
import Derived.BigQuiet
namespace Go.Proofs.YtccnkcaagigceaaGreat
open Go.RowKit Go.Shelf
attribute [local go_sem] Oper.semAt_some

/-- What a writer's end answers. -/
def WEnds (x : Wt) (w : World) (r : Ending) (w' : World) : Prop :=
  (if x.e = 0 then ∃ A c, r = .returned (.tuple #[.slice A x.b.length c, .int .i64 0]) ∧ OwnS w.heap.size 5 1 csU w' (.slice A x.b.length c) x.b else r = .returned (.tuple #[.slice none 0 0, .int .i64 (x.e : Int)])) ∧ Mod (fun _ => False) w w'
set_option maxHeartbeats 1000000 in
theorem wend_any (O : Nat → Prop) (p T : Nat) (x : Wt) (w : World) (hx : WrAt O p T w x) (hsz : x.b.length ≤ 1099511627776) :
    Calls Tryz.prog 12 #[.pointer (some ⟨p, 0, none⟩)] w (WEnds x w) := by
  obtain ⟨b, e⟩ := x
  obtain ⟨A, n, c, hp, ho, hn, hO, hpO⟩ := hx
  have q1 : w.cell? ⟨p, 0 + 1, none⟩ = some (.int .i64 (e : Int)) := by rw [hp_cell hp]; rfl
  have q1' : w.cell? ⟨p, 1, none⟩ = some (.int .i64 (e : Int)) := by rw [hp_cell hp]; rfl
  have q0 : w.cell? ⟨p, 0, none⟩ = some (.slice A n c) := by rw [hp_cell hp]; rfl
  have hcl := uclone_any _ A c b w (rd_of5 ho csU_len) hsz
  have hn' : n = b.length := hn
  rw [← hn'] at hcl
  have HC := Lib.hid hcl
  have HN := Lib.hid hn'
  clear hp ho hn hO hpO hcl hsz hn'
  by_cases he : e = 0
  · subst he
    go_enter Tryz.func12, Tryz.ntmps12
    go_wp2_with (first
      | (go_at_call 31
         refine HC.out.mono ?_
         rintro r w1 ⟨A1, c1, rfl, hown, hm⟩
         have HO1 := Lib.hid hown
         have HM1 := Lib.hid hm
         clear hown hm)
      | fail)
    refine bodyPost_ret (v := .tuple #[.slice A1 n c1, .int .i64 0]) (by simp [results, Tryz.results12, go_sem]) rfl ⟨?_, HM1.out⟩
    rw [if_pos rfl]
    refine ⟨A1, c1, ?_, ?_⟩
    · rw [HN.out]
    · have := HO1.out
      rw [HN.out] at this
      exact this
  · have he1 : ((e : Int) == 0) = false := by rw [beq_eq_false_iff_ne]; omega
    have HE := Lib.hid he
    clear he
    go_enter Tryz.func12, Tryz.ntmps12
    go_wp2
    go_quiet (fail)
    go_wp2
    refine bodyPost_ret (v := .tuple #[.slice none 0 0, .int .i64 (e : Int)]) (by simp [results, Tryz.results12, go_sem]) rfl ⟨?_, by (repeat' (first | exact Mod.refl _ _ | assumption | refine Mod.alloc ?_ _ | refine Mod.drew ?_ | refine Mod.drewN ?_ _ | refine Mod.setCell ?_ (by first | exact Or.inl rfl | (right; simp; done) | (right; simp; omega) | (left; simp; done)) _))⟩
    rw [if_neg HE.out]
end Go.Proofs.YtccnkcaagigceaaGreat
