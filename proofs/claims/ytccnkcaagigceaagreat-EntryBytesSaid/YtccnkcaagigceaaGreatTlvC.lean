/-
  The package tlv: a writer takes bytes.
-/
import Derived.Test.YtccnkcaagigceaaGreatTlvB
import Derived.Deep.DeepFit
namespace Go.Proofs.YtccnkcaagigceaaGreat
open Go.RowKit Go.Shelf
attribute [local go_sem] Oper.semAt_some

/-- A writer lies in block p: its bytes in a row of its own, in a block of O, and its fault. -/
def WrAt (O : Nat → Prop) (p T : Nat) (w : World) (x : Wt) : Prop :=
  ∃ A n c, w.heap[p]? = some (.cells #[.slice A n c, .int .i64 (x.e : Int)] T (0, 0)) ∧ OwnS 0 5 1 csU w (.slice A n c) x.b ∧ n = x.b.length ∧ (∀ b, (Value.slice A n c).ownBlock = some b → O b) ∧ ¬ O p
/-- What a call of the writer leaves. -/
def WrEnds (O : Nat → Prop) (p T : Nat) (w : World) (x : Wt) (r : Ending) (w' : World) : Prop :=
  r = .returned (.pointer (some ⟨p, 0, none⟩)) ∧ WrAt (fun b => O b ∨ w.heap.size ≤ b) p T w' x ∧ Mod (fun b => b = p ∨ O b) w w'
theorem WrAt.lt {O : Nat → Prop} {p T : Nat} {w : World} {x : Wt} (h : WrAt O p T w x) : p < w.heap.size := by
  obtain ⟨A, n, c, hp, _⟩ := h
  exact hp_lt hp
theorem WrAt.more {O O' : Nat → Prop} {p T : Nat} {w : World} {x : Wt} (h : WrAt O p T w x) (hO : ∀ b, O b → O' b) (hp : ¬ O' p) : WrAt O' p T w x := by
  obtain ⟨A, n, c, h1, h2, h3, h4, _⟩ := h
  exact ⟨A, n, c, h1, h2, h3, fun b hb => hO b (h4 b hb), hp⟩
theorem WrAt.new {O : Nat → Prop} {p T : Nat} {w : World} {x : Wt} (h : WrAt O p T w x) {k : Nat} (hk : p < k) : WrAt (fun b => O b ∨ k ≤ b) p T w x := by
  refine h.more (fun b hb => .inl hb) ?_
  obtain ⟨_, _, _, _, _, _, _, h5⟩ := h
  rintro (h | h)
  · exact h5 h
  · omega
theorem wfail_at {O : Nat → Prop} {p T : Nat} {w : World} {x : Wt} (h : WrAt O p T w x) (k : Nat) : Calls Tryz.prog 54 #[.pointer (some ⟨p, 0, none⟩), .int .i64 k] w (WrEnds O p T w (if x.e = 0 then ⟨x.b, k⟩ else x)) := by
  have hlt := h.lt
  obtain ⟨A, n, c, hp, ho, hn, hO, hpO⟩ := h
  refine (wfail_any p T A n c x.e k w hp).mono ?_
  rintro r w' ⟨rfl, hp', hm⟩
  have ho' := ho.mod hm (fun b hb' e => hpO (e ▸ hO b hb'))
  refine ⟨rfl, WrAt.new ?_ hlt, hm.mono fun b _ h => .inl h⟩
  by_cases he : x.e = 0
  · rw [if_pos he]
    have hf : faultV (x.e : Int) (k : Int) = (k : Int) := if_pos (by rw [he]; rfl)
    rw [hf] at hp'
    exact ⟨A, n, c, hp', ho', hn, hO, hpO⟩
  · rw [if_neg he]
    have hf : faultV (x.e : Int) (k : Int) = (x.e : Int) := if_neg (by omega)
    rw [hf] at hp'
    exact ⟨A, n, c, hp', ho', hn, hO, hpO⟩
/-- The head of a value, as cells. -/
theorem head_cells (t : UInt8) (m : Nat) (hm : m ≤ 4194304) : [Value.int .u8 (t.toNat : Int), .int .u8 ((m : Int) / 16777216), .int .u8 ((m : Int) / 65536), .int .u8 ((m : Int) / 256 % 256), .int .u8 ((m : Int) % 256)] = (t :: lenB m).flatMap csU := by
  simp only [lenB, csU, List.flatMap_cons, List.flatMap_nil, List.cons_append, List.nil_append, UInt8.toNat_ofNat']
  have e1 : (m : Int) / 16777216 = ((m / 16777216 % 2 ^ 8 : Nat) : Int) := by omega
  have e2 : (m : Int) / 65536 = ((m / 65536 % 256 % 2 ^ 8 : Nat) : Int) := by omega
  have e3 : (m : Int) / 256 % 256 = ((m / 256 % 256 % 2 ^ 8 : Nat) : Int) := by omega
  have e4 : (m : Int) % 256 = ((m % 256 % 2 ^ 8 : Nat) : Int) := by omega
  rw [e1, e2, e3, e4]
set_option maxRecDepth 100000 in
set_option maxHeartbeats 4000000 in
theorem wbytes_any (O : Nat → Prop) (p T : Nat) (x : Wt) (t : UInt8) (D : Nat → Prop) (B : Option Addr) (m cm : Nat) (bs : Bs) (w : World) (hx : WrAt O p T w x) (hD : ∀ b, D b → ¬ O b) (hB : Rd D w 1 csU B bs) (hm : m = bs.length) (hsz : x.b.length ≤ 1099511627776) (hml : m ≤ 1099511627776) :
    Calls Tryz.prog 50 #[.pointer (some ⟨p, 0, none⟩), .int .u8 (t.toNat : Int), .slice B m cm] w (WrEnds O p T w (x.bytes t bs)) := by
  obtain ⟨b, e⟩ := x
  obtain ⟨A, n, c, hp, ho, hn, hO, hpO⟩ := id hx
  have hlt := hp_lt hp
  have HX := Lib.hid hx
  have q1 : w.cell? ⟨p, 0 + 1, none⟩ = some (.int .i64 (e : Int)) := by rw [hp_cell hp]; rfl
  have q1' : w.cell? ⟨p, 1, none⟩ = some (.int .i64 (e : Int)) := by rw [hp_cell hp]; rfl
  have q0 : w.cell? ⟨p, 0, none⟩ = some (.slice A n c) := by rw [hp_cell hp]; rfl
  have HM := Lib.hid hm
  have HN := Lib.hid (show n = b.length from hn)
  have hn1 : n ≤ 1099511627776 := by rw [HN.out]; exact hsz
  have HP := Lib.hid hp
  have HO := Lib.hid ho
  have HB := Lib.hid hB
  have HOO := Lib.hid hO
  have HPO := Lib.hid hpO
  have HD := Lib.hid hD
  have HLT := Lib.hid hlt
  have HBl := Lib.hid (show Rd (fun b => D b ∧ b < w.heap.size) w 1 csU B bs from hB.lt csU_len (by decide))
  have HS := Lib.hid (show b.length ≤ 1099511627776 from hsz)
  clear hp ho hn hO hpO hx hm hB hsz hD hlt
  by_cases he : e = 0
  · subst he
    have HX3 := Lib.hid (wfail_at HX.out 3)
    have HX2 := Lib.hid (wfail_at HX.out 2)
    by_cases h4 : 4194304 < m
    · have h4' : decide ((4194304 : Int) < (m : Int)) = true := by rw [decide_eq_true_eq]; omega
      have HE := Lib.hid (show Wt.bytes ⟨b, 0⟩ t bs = ⟨b, 3⟩ by unfold Wt.bytes; rw [if_neg (by simp), if_pos (by rw [← HM.out]; exact h4)])
      go_enter Tryz.func50, Tryz.ntmps50
      go_wp2_with (first
        | (go_at_call 54
           refine HX3.out.mono ?_
           rintro r w1 ⟨rfl, hx1, hm1⟩
           have HX4 := Lib.hid hx1
           have HM1 := Lib.hid hm1
           clear hx1 hm1)
        | fail)
      go_ret
      exact ⟨rfl, by rw [HE.out]; exact HX4.out, HM1.out⟩
    · have h4' : decide ((4194304 : Int) < (m : Int)) = false := by rw [decide_eq_false_iff_not]; omega
      by_cases ht : t = 0
      · have ht1 : ((t.toNat : Int) == 0) = true := by rw [ht]; rfl
        have HE := Lib.hid (show Wt.bytes ⟨b, 0⟩ t bs = ⟨b, 2⟩ by unfold Wt.bytes; rw [if_neg (by simp), if_neg (by rw [← HM.out]; exact h4), if_pos ht])
        clear ht
        go_enter Tryz.func50, Tryz.ntmps50
        go_wp2_with (first
          | (go_at_call 54
             refine HX2.out.mono ?_
             rintro r w1 ⟨rfl, hx1, hm1⟩
             have HX4 := Lib.hid hx1
             have HM1 := Lib.hid hm1
             clear hx1 hm1)
          | fail)
        go_ret
        exact ⟨rfl, by rw [HE.out]; exact HX4.out, HM1.out⟩
      · have ht1 : ((t.toNat : Int) == 0) = false := by
          rw [beq_eq_false_iff_ne]; intro e; exact ht (UInt8.toNat_inj.1 (by show t.toNat = 0; omega))
        have HE := Lib.hid (show Wt.bytes ⟨b, 0⟩ t bs = ⟨b ++ valV t bs, 0⟩ from Wt.bytes_ok b ht (by rw [← HM.out]; omega))
        clear ht
        go_enter Tryz.func50, Tryz.ntmps50
        have HLn := Lib.hid (show (t :: lenB m).length = 5 from rfl)
        have HCe := Lib.hid (head_cells t m (by omega))
        go_wp2_with (at_builtin; first
          | (with_reducible refine wpList_app (base := 0) (xs := b) (ys := t :: lenB m) (D := fun b => b = w.heap.size) (v := .slice A n c) rfl (.tmp 14) (.tmp 27) rfl u8s_t csU_len csU_one rfl (HO.out.below ((Below.refl _ w).alloc (Nat.le_refl _) _) fun b hb => (HO.out.fresh b hb).2) 5 rfl HLn.out.symm (Rd.blk csU_len (hp_new w _) HCe.out) ?_ ?_ (Nat.zero_le _) ?_
             · rw [HLn.out]; have := HS.out; simp [maxLen]; omega
             · rw [HLn.out]; have := HS.out; omega
             intro v2 w2 hown2 hm2 hat2
             obtain ⟨A2, c2, hv2, -, hfr2, hml2⟩ := OwnS.rd hown2 csU_len
             obtain ⟨n2, hn2⟩ : ∃ n2, n2 = (b ++ t :: lenB m).length := ⟨_, rfl⟩
             rw [← hn2] at hv2 hml2
             subst hv2
             have HN2 := Lib.hid hn2
             have HO2 := Lib.hid hown2
             have HM2 := Lib.hid (((Mod.refl O w).alloc _).trans hm2 (fun b hb => .inl (HOO.out b hb)))
             have HAt2 := Lib.hid (show ∀ x, (Value.slice A2 n2 c2).ownBlock = some x → O x ∨ w.heap.size ≤ x from fun x hx => by
               rcases hat2 with h | h
               · exact .inl (HOO.out x (h ▸ hx))
               · rw [h] at hx; injection hx with hx; right; simp at hx; omega)
             have HBl2 := Lib.hid (HBl.out.keep (HM2.out.agree fun b hb => ⟨hb.2, HD.out b hb.1⟩))
             clear hown2 hm2 hat2 hfr2 hn2)
          | (with_reducible refine wpList_app (base := 0) (xs := b ++ t :: lenB m) (ys := bs) (D := fun b => D b ∧ b < w.heap.size) (v := .slice A2 n2 c2) rfl (.tmp 28) (.tmp 29) rfl u8s_t csU_len csU_one rfl HO2.out cm rfl HM.out HBl2.out ?_ ?_ (Nat.zero_le _) ?_
             · rw [List.length_append, HLn.out, ← HM.out]; have := HS.out; simp [maxLen]; omega
             · rw [List.length_append, HLn.out, ← HM.out]; have := HS.out; omega
             intro v3 w3 hown3 hm3 hat3
             obtain ⟨A3, c3, hv3, -, hfr3, hml3⟩ := OwnS.rd hown3 csU_len
             obtain ⟨n3, hn3⟩ : ∃ n3, n3 = (b ++ t :: lenB m ++ bs).length := ⟨_, rfl⟩
             rw [← hn3] at hv3 hml3
             subst hv3
             have HN3 := Lib.hid hn3
             have HO3 := Lib.hid hown3
             have HM3 := Lib.hid (HM2.out.trans hm3 (fun b hb => HAt2.out b hb))
             have HAt3 := Lib.hid (show ∀ x, (Value.slice A3 n3 c3).ownBlock = some x → O x ∨ w.heap.size ≤ x from fun x hx => by
               rcases hat3 with h | h
               · exact HAt2.out x (h ▸ hx)
               · rw [h] at hx; injection hx with hx; right; have := HM2.out.size; omega)
             have hp3 := hp_mod HP.out HM3.out HPO.out
             have f3 : w3.frozen? ⟨p, 0, none⟩ = false := hp_free hp3 _
             have q3 : w3.cell? ⟨p, 0, none⟩ = some (.slice A n c) := by rw [hp_cell hp3]; rfl
             have HP3 := Lib.hid hp3
             clear hown3 hm3 hat3 hfr3 hn3 hp3)
          | fail)
        go_ret
        have HOp := fun x (hx : (Value.slice A3 n3 c3).ownBlock = some x) => show ¬ x = p from fun e => by
          rcases HAt3.out x hx with h | h
          · exact HPO.out (e ▸ h)
          · have := HLT.out; omega
        refine ⟨rfl, ?_, ?_⟩
        · rw [HE.out]
          refine ⟨A3, n3, c3, hp_eq (hp_set HP3.out 0 _) rfl, ?_, ?_, HAt3.out, ?_⟩
          · have e : b ++ t :: lenB m ++ bs = b ++ valV t bs := by rw [HM.out]; unfold valV; simp
            rw [← e]
            exact HO3.out.mod (C := fun x => x = p) (by (repeat' (first | exact Mod.refl _ _ | assumption | refine Mod.alloc ?_ _ | refine Mod.drew ?_ | refine Mod.drewN ?_ _ | refine Mod.setCell ?_ (by first | exact Or.inl rfl | (right; simp; done) | (right; simp; omega) | (left; simp; done)) _))) HOp
          · rw [HN3.out, HM.out]; unfold valV; simp
          · rintro (h | h)
            · exact HPO.out h
            · have := HLT.out; omega
        · exact (HM3.out.mono fun b _ h => .inr h).trans (C' := fun x => x = p) (by (repeat' (first | exact Mod.refl _ _ | assumption | refine Mod.alloc ?_ _ | refine Mod.drew ?_ | refine Mod.drewN ?_ _ | refine Mod.setCell ?_ (by first | exact Or.inl rfl | (right; simp; done) | (right; simp; omega) | (left; simp; done)) _))) fun b hb => .inl (.inl hb)
  · have he1 : ((e : Int) == 0) = false := by rw [beq_eq_false_iff_ne]; omega
    have HE := Lib.hid (show Wt.bytes ⟨b, e⟩ t bs = ⟨b, e⟩ by unfold Wt.bytes; rw [if_pos he])
    go_enter Tryz.func50, Tryz.ntmps50
    go_wp2
    go_ret
    exact ⟨rfl, by rw [HE.out]; exact HX.out.new HLT.out, Mod.refl _ _⟩
end Go.Proofs.YtccnkcaagigceaaGreat
