/-
  Texts of this claim, one behind the other: TlvB, TlvC, TlvE.
-/
import Derived.Test.YtmalclclopnlnaaGreatPk01
import Derived.Deep.DeepFit
import Derived.BigQuiet
/-
  The package tlv: a slice cloned, a writer's fault.
-/
namespace Go.Proofs.YtmalclclopnlnaaGreat
open Go.RowKit Go.Shelf
attribute [local go_sem] Oper.semAt_some

set_option maxHeartbeats 1000000 in
/-- slices.Clone of bytes: what comes back holds the same, in memory of the call's own. -/
theorem uclone_any (D : Nat → Prop) (A : Option Addr) (c : Nat) (xs : Bs) (w : World) (hA : Rd D w 1 csU A xs) (hl : xs.length ≤ 1099511627776) :
    Calls Tryz.prog 74 #[.slice A xs.length c] w fun e w' => ∃ A' c', e = .returned (.slice A' xs.length c') ∧ OwnS w.heap.size 5 1 csU w' (.slice A' xs.length c') xs ∧ Mod (fun _ => False) w w' := by
  obtain ⟨n, hn⟩ : ∃ n, n = xs.length := ⟨_, rfl⟩
  rw [← hn] at hl
  have HN := Lib.hid hn
  rcases A with _ | a
  · have h0 : xs = [] := by
      cases xs with
      | nil => rfl
      | cons y r => obtain ⟨b, off, h, _⟩ := hA (by simp); cases h
    subst h0
    have q22 := fun w n c => Lib.run_eql_slice_nil (P := Tryz.prog) w 35 5 none n c 0 0 Tryz.underlying35
    have H0 := Lib.hid (OwnS.nil w.heap.size 5 1 csU w)
    clear hn hA
    go_enter Tryz.func74, Tryz.ntmps74
    go_wp2
    go_ret
    exact ⟨none, 0, rfl, H0.out, Mod.refl _ _⟩
  · rw [← hn]
    have q22 := fun w n c => Lib.run_eql_slice_nil (P := Tryz.prog) w 35 5 (some a) n c 0 0 Tryz.underlying35
    have hmade := Lib.hid (World.ownsRow_made (base := w.heap.size) (e := 5) (size := 1) w #[] 0 (Nat.le_refl _) (Nat.zero_le _) (by simp))
    have HA := Lib.hid (show Rd (fun b => D b ∧ b < w.heap.size) w 1 csU (some a) xs from hA.lt csU_len (by decide))
    clear hn hA
    go_enter Tryz.func74, Tryz.ntmps74
    go_wp2_with (at_builtin
                 refine wpList_app (base := w.heap.size) (xs := []) (ys := xs) (D := fun b => D b ∧ b < w.heap.size) (v := .slice (some ⟨w.heap.size, 0, none⟩) 0 0) rfl (.tmp 5) (.tmp 6) rfl u8s_t csU_len csU_one rfl hmade.out _ rfl HN.out (HA.out.below ((Below.refl _ w).alloc (Nat.le_refl _) _) fun b h => h.2) ?_ ?_ ?_ ?_
                 · rw [← HN.out]; simp [maxLen]; omega
                 · rw [← HN.out]; simp; omega
                 · simp
                 intro v' w2 hown2 hm2 hat2
                 rw [List.nil_append] at hown2
                 obtain ⟨A2, c2, hv2, -, hfr2, hml2⟩ := OwnS.rd hown2 csU_len
                 rw [← HN.out] at hv2
                 subst hv2
                 have M2 := ((Mod.refl (fun _ => False) w).alloc (.cells #[] 5)).trans hm2 (fun b hb => by simp [Value.ownBlock] at hb; right; omega)
                 clear hm2)
    go_ret
    exact ⟨A2, c2, rfl, hown2, M2⟩

/-- A writer's fault is the first that it met. -/
def faultV (e k : Int) : Int := if e = 0 then k else e
theorem wfail_any (p T : Nat) (A : Option Addr) (n c : Nat) (e k : Int) (w : World) (hp : w.heap[p]? = some (.cells #[.slice A n c, .int .i64 e] T (0, 0))) :
    Calls Tryz.prog 92 #[.pointer (some ⟨p, 0, none⟩), .int .i64 k] w fun r w' => r = .returned (.pointer (some ⟨p, 0, none⟩)) ∧ w'.heap[p]? = some (.cells #[.slice A n c, .int .i64 (faultV e k)] T (0, 0)) ∧ Mod (fun b => b = p) w w' := by
  have q1 : w.cell? ⟨p, 0 + 1, none⟩ = some (.int .i64 e) := by rw [hp_cell hp]; rfl
  have q1' : w.cell? ⟨p, 1, none⟩ = some (.int .i64 e) := by rw [hp_cell hp]; rfl
  have f1 : w.frozen? ⟨p, 0 + 1, none⟩ = false := hp_free hp _
  have f1' : w.frozen? ⟨p, 1, none⟩ = false := hp_free hp _
  have HP := Lib.hid hp
  clear hp
  by_cases he : e = 0
  · subst he
    go_enter Tryz.func92, Tryz.ntmps92
    go_wp2
    go_ret
    exact ⟨rfl, hp_eq (hp_set HP.out 1 _) rfl, by (repeat' (first | exact Mod.refl _ _ | assumption | refine Mod.alloc ?_ _ | refine Mod.drew ?_ | refine Mod.drewN ?_ _ | refine Mod.setCell ?_ (by first | exact Or.inl rfl | (right; simp; done) | (right; simp; omega) | (left; simp; done)) _))⟩
  · have he1 : (e == 0) = false := by rw [beq_eq_false_iff_ne]; exact he
    have HE := Lib.hid (show faultV e k = e from if_neg he)
    go_enter Tryz.func92, Tryz.ntmps92
    go_wp2
    go_ret
    exact ⟨rfl, by rw [HE.out]; exact HP.out, Mod.refl _ _⟩
end Go.Proofs.YtmalclclopnlnaaGreat
/-
  The package tlv: a writer takes bytes.
-/
namespace Go.Proofs.YtmalclclopnlnaaGreat
open Go.RowKit Go.Shelf
attribute [local go_sem] Oper.semAt_some

/-- A writer lies in block p: its bytes in a row of its own, in a block of O, and its fault. -/
def WrAt (O : Nat → Prop) (p T : Nat) (w : World) (x : Wt) : Prop :=
  ∃ A n c, w.heap[p]? = some (.cells #[.slice A n c, .int .i64 (x.e : Int)] T (0, 0)) ∧ OwnS 0 5 1 csU w (.slice A n c) x.b ∧ n = x.b.length ∧ (∀ b, (Value.slice A n c).ownBlock = some b → O b) ∧ ¬ O p
/-- What a call of the writer leaves. -/
def WrEnds (O : Nat → Prop) (p T : Nat) (w : World) (x : Wt) (r : Ending) (w' : World) : Prop :=
  r = .returned (.pointer (some ⟨p, 0, none⟩)) ∧ WrAt (fun b => O b ∨ w.heap.size ≤ b) p T w' x ∧ Mod (fun b => b = p ∨ O b) w w'
theorem WrAt.lt {O : Nat → Prop} {p T : Nat} {w : World} {x : Wt} (h : WrAt O p T w x) : p < w.heap.size := by
  obtain ⟨A, n, c, hp, _⟩ := h
  exact hp_lt hp
theorem WrAt.more {O O' : Nat → Prop} {p T : Nat} {w : World} {x : Wt} (h : WrAt O p T w x) (hO : ∀ b, O b → O' b) (hp : ¬ O' p) : WrAt O' p T w x := by
  obtain ⟨A, n, c, h1, h2, h3, h4, _⟩ := h
  exact ⟨A, n, c, h1, h2, h3, fun b hb => hO b (h4 b hb), hp⟩
theorem WrAt.new {O : Nat → Prop} {p T : Nat} {w : World} {x : Wt} (h : WrAt O p T w x) {k : Nat} (hk : p < k) : WrAt (fun b => O b ∨ k ≤ b) p T w x := by
  refine h.more (fun b hb => .inl hb) ?_
  obtain ⟨_, _, _, _, _, _, _, h5⟩ := h
  rintro (h | h)
  · exact h5 h
  · omega
theorem wfail_at {O : Nat → Prop} {p T : Nat} {w : World} {x : Wt} (h : WrAt O p T w x) (k : Nat) : Calls Tryz.prog 92 #[.pointer (some ⟨p, 0, none⟩), .int .i64 k] w (WrEnds O p T w (if x.e = 0 then ⟨x.b, k⟩ else x)) := by
  have hlt := h.lt
  obtain ⟨A, n, c, hp, ho, hn, hO, hpO⟩ := h
  refine (wfail_any p T A n c x.e k w hp).mono ?_
  rintro r w' ⟨rfl, hp', hm⟩
  have ho' := ho.mod hm (fun b hb' e => hpO (e ▸ hO b hb'))
  refine ⟨rfl, WrAt.new ?_ hlt, hm.mono fun b _ h => .inl h⟩
  by_cases he : x.e = 0
  · rw [if_pos he]
    have hf : faultV (x.e : Int) (k : Int) = (k : Int) := if_pos (by rw [he]; rfl)
    rw [hf] at hp'
    exact ⟨A, n, c, hp', ho', hn, hO, hpO⟩
  · rw [if_neg he]
    have hf : faultV (x.e : Int) (k : Int) = (x.e : Int) := if_neg (by omega)
    rw [hf] at hp'
    exact ⟨A, n, c, hp', ho', hn, hO, hpO⟩
/-- The head of a value, as cells. -/
theorem head_cells (t : UInt8) (m : Nat) (hm : m ≤ 4194304) : [Value.int .u8 (t.toNat : Int), .int .u8 ((m : Int) / 16777216), .int .u8 ((m : Int) / 65536), .int .u8 ((m : Int) / 256 % 256), .int .u8 ((m : Int) % 256)] = (t :: lenB m).flatMap csU := by
  simp only [lenB, csU, List.flatMap_cons, List.flatMap_nil, List.cons_append, List.nil_append, UInt8.toNat_ofNat']
  have e1 : (m : Int) / 16777216 = ((m / 16777216 % 2 ^ 8 : Nat) : Int) := by omega
  have e2 : (m : Int) / 65536 = ((m / 65536 % 256 % 2 ^ 8 : Nat) : Int) := by omega
  have e3 : (m : Int) / 256 % 256 = ((m / 256 % 256 % 2 ^ 8 : Nat) : Int) := by omega
  have e4 : (m : Int) % 256 = ((m % 256 % 2 ^ 8 : Nat) : Int) := by omega
  rw [e1, e2, e3, e4]
set_option maxRecDepth 100000 in
set_option maxHeartbeats 4000000 in
theorem wbytes_any (O : Nat → Prop) (p T : Nat) (x : Wt) (t : UInt8) (D : Nat → Prop) (B : Option Addr) (m cm : Nat) (bs : Bs) (w : World) (hx : WrAt O p T w x) (hD : ∀ b, D b → ¬ O b) (hB : Rd D w 1 csU B bs) (hm : m = bs.length) (hsz : x.b.length ≤ 1099511627776) (hml : m ≤ 1099511627776) :
    Calls Tryz.prog 72 #[.pointer (some ⟨p, 0, none⟩), .int .u8 (t.toNat : Int), .slice B m cm] w (WrEnds O p T w (x.bytes t bs)) := by
  obtain ⟨b, e⟩ := x
  obtain ⟨A, n, c, hp, ho, hn, hO, hpO⟩ := id hx
  have hlt := hp_lt hp
  have HX := Lib.hid hx
  have q1 : w.cell? ⟨p, 0 + 1, none⟩ = some (.int .i64 (e : Int)) := by rw [hp_cell hp]; rfl
  have q1' : w.cell? ⟨p, 1, none⟩ = some (.int .i64 (e : Int)) := by rw [hp_cell hp]; rfl
  have q0 : w.cell? ⟨p, 0, none⟩ = some (.slice A n c) := by rw [hp_cell hp]; rfl
  have HM := Lib.hid hm
  have HN := Lib.hid (show n = b.length from hn)
  have hn1 : n ≤ 1099511627776 := by rw [HN.out]; exact hsz
  have HP := Lib.hid hp
  have HO := Lib.hid ho
  have HB := Lib.hid hB
  have HOO := Lib.hid hO
  have HPO := Lib.hid hpO
  have HD := Lib.hid hD
  have HLT := Lib.hid hlt
  have HBl := Lib.hid (show Rd (fun b => D b ∧ b < w.heap.size) w 1 csU B bs from hB.lt csU_len (by decide))
  have HS := Lib.hid (show b.length ≤ 1099511627776 from hsz)
  clear hp ho hn hO hpO hx hm hB hsz hD hlt
  by_cases he : e = 0
  · subst he
    have HX3 := Lib.hid (wfail_at HX.out 3)
    have HX2 := Lib.hid (wfail_at HX.out 2)
    by_cases h4 : 4194304 < m
    · have h4' : decide ((4194304 : Int) < (m : Int)) = true := by rw [decide_eq_true_eq]; omega
      have HE := Lib.hid (show Wt.bytes ⟨b, 0⟩ t bs = ⟨b, 3⟩ by unfold Wt.bytes; rw [if_neg (by simp), if_pos (by rw [← HM.out]; exact h4)])
      go_enter Tryz.func72, Tryz.ntmps72
      go_wp2_with (first
        | (go_at_call 92
           refine HX3.out.mono ?_
           rintro r w1 ⟨rfl, hx1, hm1⟩
           have HX4 := Lib.hid hx1
           have HM1 := Lib.hid hm1
           clear hx1 hm1)
        | fail)
      go_ret
      exact ⟨rfl, by rw [HE.out]; exact HX4.out, HM1.out⟩
    · have h4' : decide ((4194304 : Int) < (m : Int)) = false := by rw [decide_eq_false_iff_not]; omega
      by_cases ht : t = 0
      · have ht1 : ((t.toNat : Int) == 0) = true := by rw [ht]; rfl
        have HE := Lib.hid (show Wt.bytes ⟨b, 0⟩ t bs = ⟨b, 2⟩ by unfold Wt.bytes; rw [if_neg (by simp), if_neg (by rw [← HM.out]; exact h4), if_pos ht])
        clear ht
        go_enter Tryz.func72, Tryz.ntmps72
        go_wp2_with (first
          | (go_at_call 92
             refine HX2.out.mono ?_
             rintro r w1 ⟨rfl, hx1, hm1⟩
             have HX4 := Lib.hid hx1
             have HM1 := Lib.hid hm1
             clear hx1 hm1)
          | fail)
        go_ret
        exact ⟨rfl, by rw [HE.out]; exact HX4.out, HM1.out⟩
      · have ht1 : ((t.toNat : Int) == 0) = false := by
          rw [beq_eq_false_iff_ne]; intro e; exact ht (UInt8.toNat_inj.1 (by show t.toNat = 0; omega))
        have HE := Lib.hid (show Wt.bytes ⟨b, 0⟩ t bs = ⟨b ++ valV t bs, 0⟩ from Wt.bytes_ok b ht (by rw [← HM.out]; omega))
        clear ht
        go_enter Tryz.func72, Tryz.ntmps72
        have HLn := Lib.hid (show (t :: lenB m).length = 5 from rfl)
        have HCe := Lib.hid (head_cells t m (by omega))
        go_wp2_with (at_builtin; first
          | (with_reducible refine wpList_app (base := 0) (xs := b) (ys := t :: lenB m) (D := fun b => b = w.heap.size) (v := .slice A n c) rfl (.tmp 14) (.tmp 27) rfl u8s_t csU_len csU_one rfl (HO.out.below ((Below.refl _ w).alloc (Nat.le_refl _) _) fun b hb => (HO.out.fresh b hb).2) 5 rfl HLn.out.symm (Rd.blk csU_len (hp_new w _) HCe.out) ?_ ?_ (Nat.zero_le _) ?_
             · rw [HLn.out]; have := HS.out; simp [maxLen]; omega
             · rw [HLn.out]; have := HS.out; omega
             intro v2 w2 hown2 hm2 hat2
             obtain ⟨A2, c2, hv2, -, hfr2, hml2⟩ := OwnS.rd hown2 csU_len
             obtain ⟨n2, hn2⟩ : ∃ n2, n2 = (b ++ t :: lenB m).length := ⟨_, rfl⟩
             rw [← hn2] at hv2 hml2
             subst hv2
             have HN2 := Lib.hid hn2
             have HO2 := Lib.hid hown2
             have HM2 := Lib.hid (((Mod.refl O w).alloc _).trans hm2 (fun b hb => .inl (HOO.out b hb)))
             have HAt2 := Lib.hid (show ∀ x, (Value.slice A2 n2 c2).ownBlock = some x → O x ∨ w.heap.size ≤ x from fun x hx => by
               rcases hat2 with h | h
               · exact .inl (HOO.out x (h ▸ hx))
               · rw [h] at hx; injection hx with hx; right; simp at hx; omega)
             have HBl2 := Lib.hid (HBl.out.keep (HM2.out.agree fun b hb => ⟨hb.2, HD.out b hb.1⟩))
             clear hown2 hm2 hat2 hfr2 hn2)
          | (with_reducible refine wpList_app (base := 0) (xs := b ++ t :: lenB m) (ys := bs) (D := fun b => D b ∧ b < w.heap.size) (v := .slice A2 n2 c2) rfl (.tmp 28) (.tmp 29) rfl u8s_t csU_len csU_one rfl HO2.out cm rfl HM.out HBl2.out ?_ ?_ (Nat.zero_le _) ?_
             · rw [List.length_append, HLn.out, ← HM.out]; have := HS.out; simp [maxLen]; omega
             · rw [List.length_append, HLn.out, ← HM.out]; have := HS.out; omega
             intro v3 w3 hown3 hm3 hat3
             obtain ⟨A3, c3, hv3, -, hfr3, hml3⟩ := OwnS.rd hown3 csU_len
             obtain ⟨n3, hn3⟩ : ∃ n3, n3 = (b ++ t :: lenB m ++ bs).length := ⟨_, rfl⟩
             rw [← hn3] at hv3 hml3
             subst hv3
             have HN3 := Lib.hid hn3
             have HO3 := Lib.hid hown3
             have HM3 := Lib.hid (HM2.out.trans hm3 (fun b hb => HAt2.out b hb))
             have HAt3 := Lib.hid (show ∀ x, (Value.slice A3 n3 c3).ownBlock = some x → O x ∨ w.heap.size ≤ x from fun x hx => by
               rcases hat3 with h | h
               · exact HAt2.out x (h ▸ hx)
               · rw [h] at hx; injection hx with hx; right; have := HM2.out.size; omega)
             have hp3 := hp_mod HP.out HM3.out HPO.out
             have f3 : w3.frozen? ⟨p, 0, none⟩ = false := hp_free hp3 _
             have q3 : w3.cell? ⟨p, 0, none⟩ = some (.slice A n c) := by rw [hp_cell hp3]; rfl
             have HP3 := Lib.hid hp3
             clear hown3 hm3 hat3 hfr3 hn3 hp3)
          | fail)
        go_ret
        have HOp := fun x (hx : (Value.slice A3 n3 c3).ownBlock = some x) => show ¬ x = p from fun e => by
          rcases HAt3.out x hx with h | h
          · exact HPO.out (e ▸ h)
          · have := HLT.out; omega
        refine ⟨rfl, ?_, ?_⟩
        · rw [HE.out]
          refine ⟨A3, n3, c3, hp_eq (hp_set HP3.out 0 _) rfl, ?_, ?_, HAt3.out, ?_⟩
          · have e : b ++ t :: lenB m ++ bs = b ++ valV t bs := by rw [HM.out]; unfold valV; simp
            rw [← e]
            exact HO3.out.mod (C := fun x => x = p) (by (repeat' (first | exact Mod.refl _ _ | assumption | refine Mod.alloc ?_ _ | refine Mod.drew ?_ | refine Mod.drewN ?_ _ | refine Mod.setCell ?_ (by first | exact Or.inl rfl | (right; simp; done) | (right; simp; omega) | (left; simp; done)) _))) HOp
          · rw [HN3.out, HM.out]; unfold valV; simp
          · rintro (h | h)
            · exact HPO.out h
            · have := HLT.out; omega
        · exact (HM3.out.mono fun b _ h => .inr h).trans (C' := fun x => x = p) (by (repeat' (first | exact Mod.refl _ _ | assumption | refine Mod.alloc ?_ _ | refine Mod.drew ?_ | refine Mod.drewN ?_ _ | refine Mod.setCell ?_ (by first | exact Or.inl rfl | (right; simp; done) | (right; simp; omega) | (left; simp; done)) _))) fun b hb => .inl (.inl hb)
  · have he1 : ((e : Int) == 0) = false := by rw [beq_eq_false_iff_ne]; omega
    have HE := Lib.hid (show Wt.bytes ⟨b, e⟩ t bs = ⟨b, e⟩ by unfold Wt.bytes; rw [if_pos he])
    go_enter Tryz.func72, Tryz.ntmps72
    go_wp2
    go_ret
    exact ⟨rfl, by rw [HE.out]; exact HX.out.new HLT.out, Mod.refl _ _⟩
end Go.Proofs.YtmalclclopnlnaaGreat
/-
  The package tlv: a reader.
-/
namespace Go.Proofs.YtmalclclopnlnaaGreat
open Go.RowKit Go.Shelf
attribute [local go_sem] Oper.semAt_some

/-- A reader lies in block p: the bytes that are left, in blocks of D (not p), and whether it failed. -/
def RrAt (D : Nat → Prop) (p T : Nat) (w : World) (s : Bs) (bad : Bool) : Prop :=
  ∃ A n c, w.heap[p]? = some (.cells #[.slice A n c, .bool bad, .bool true] T (0, 0)) ∧ Rd D w 1 csU A s ∧ n = s.length ∧ n ≤ c ∧ ∀ b, D b → b ≠ p ∧ b < w.heap.size
theorem rthere_any (D : Nat → Prop) (p T : Nat) (s : Bs) (bad : Bool) (w : World) (h : RrAt D p T w s bad) :
    Calls Tryz.prog 96 #[.pointer (some ⟨p, 0, none⟩)] w fun r w' => r = .returned (.bool !bad) ∧ w = w' := by
  obtain ⟨A, n, c, hp, -, -, -, -⟩ := h
  have q1 : w.cell? ⟨p, 0 + 1, none⟩ = some (.bool bad) := by rw [hp_cell hp]; rfl
  have q1' : w.cell? ⟨p, 1, none⟩ = some (.bool bad) := by rw [hp_cell hp]; rfl
  have q2 : w.cell? ⟨p, 0 + 2, none⟩ = some (.bool true) := by rw [hp_cell hp]; rfl
  have q2' : w.cell? ⟨p, 2, none⟩ = some (.bool true) := by rw [hp_cell hp]; rfl
  clear hp
  go_enter Tryz.func96, Tryz.ntmps96
  go_wp2
  go_ret
  exact ⟨rfl, rfl⟩
theorem rend_any (D : Nat → Prop) (p T : Nat) (s : Bs) (bad : Bool) (w : World) (h : RrAt D p T w s bad) :
    Calls Tryz.prog 55 #[.pointer (some ⟨p, 0, none⟩)] w fun r w' => r = .returned (.int .i64 (if bad = true ∨ 0 < s.length then 4 else 0)) ∧ w = w' := by
  obtain ⟨A, n, c, hp, -, hn, -, -⟩ := h
  have q0 : w.cell? ⟨p, 0, none⟩ = some (.slice A n c) := by rw [hp_cell hp]; rfl
  have q1 : w.cell? ⟨p, 0 + 1, none⟩ = some (.bool bad) := by rw [hp_cell hp]; rfl
  have q1' : w.cell? ⟨p, 1, none⟩ = some (.bool bad) := by rw [hp_cell hp]; rfl
  have q2 : w.cell? ⟨p, 0 + 2, none⟩ = some (.bool true) := by rw [hp_cell hp]; rfl
  have q2' : w.cell? ⟨p, 2, none⟩ = some (.bool true) := by rw [hp_cell hp]; rfl
  rw [← hn]
  obtain ⟨k, hk⟩ : ∃ k : Int, k = if bad = true ∨ 0 < n then 4 else 0 := ⟨_, rfl⟩
  rw [← hk]
  have HK := Lib.hid hk
  clear hp hn hk
  cases bad
  · by_cases h0 : 0 < n
    · have h1 : decide ((0 : Int) < (n : Int)) = true := by rw [decide_eq_true_eq]; omega
      go_enter Tryz.func55, Tryz.ntmps55
      go_wp2
      go_ret
      exact ⟨by rw [HK.out]; simp [h0], rfl⟩
    · have h1 : decide ((0 : Int) < (n : Int)) = false := by rw [decide_eq_false_iff_not]; omega
      go_enter Tryz.func55, Tryz.ntmps55
      go_wp2
      go_ret
      exact ⟨by rw [HK.out]; simp [h0], rfl⟩
  · go_enter Tryz.func55, Tryz.ntmps55
    go_wp2
    go_ret
    exact ⟨by rw [HK.out]; simp, rfl⟩
theorem rfail_any (D : Nat → Prop) (p T : Nat) (s : Bs) (bad : Bool) (w : World) (h : RrAt D p T w s bad) :
    Calls Tryz.prog 76 #[.pointer (some ⟨p, 0, none⟩)] w fun r w' => r = .returned (.tuple #[]) ∧ RrAt D p T w' s true ∧ Mod (fun b => b = p) w w' := by
  obtain ⟨A, n, c, hp, hr, hn, hc, hd⟩ := h
  have q1 : w.cell? ⟨p, 0 + 1, none⟩ = some (.bool bad) := by rw [hp_cell hp]; rfl
  have q1' : w.cell? ⟨p, 1, none⟩ = some (.bool bad) := by rw [hp_cell hp]; rfl
  have f1 : w.frozen? ⟨p, 0 + 1, none⟩ = false := hp_free hp _
  have f1' : w.frozen? ⟨p, 1, none⟩ = false := hp_free hp _
  have HP := Lib.hid hp
  have HR := Lib.hid hr
  have HN := Lib.hid hn
  have HC := Lib.hid hc
  have HDD := Lib.hid hd
  clear hp hr hn hc hd
  go_enter Tryz.func76, Tryz.ntmps76
  go_wp2
  have hm : Mod (fun b => b = p) w (w.setCell ⟨p, 1, none⟩ (.bool true)) := by (repeat' (first | exact Mod.refl _ _ | assumption | refine Mod.alloc ?_ _ | refine Mod.drew ?_ | refine Mod.drewN ?_ _ | refine Mod.setCell ?_ (by first | exact Or.inl rfl | (right; simp; done) | (right; simp; omega) | (left; simp; done)) _))
  refine bodyPost_end (v := .tuple #[]) (by simp [results, Tryz.results76, go_sem]) rfl ⟨rfl, ⟨A, n, c, hp_eq (hp_set HP.out 1 _) rfl, ?_, HN.out, HC.out, fun b hb => ⟨(HDD.out b hb).1, Nat.lt_of_lt_of_le (HDD.out b hb).2 hm.size⟩⟩, hm⟩
  exact HR.out.keep (hm.agree fun b hb => ⟨(HDD.out b hb).2, (HDD.out b hb).1⟩)
end Go.Proofs.YtmalclclopnlnaaGreat
/-
  The package tlv: a reader takes a value.
-/
namespace Go.Proofs.YtmalclclopnlnaaGreat
open Go.RowKit Go.Shelf
attribute [local go_sem] Oper.semAt_some

theorem RrAt.fault {D : Nat → Prop} {p T : Nat} {s : Bs} {bad : Bool} {w : World} (h : RrAt D p T w s bad) (q : Nat) : RrAt D p T ((w.drewN q).setCell ⟨p, 1, none⟩ (.bool true)) s true ∧ Mod (fun b => b = p) w ((w.drewN q).setCell ⟨p, 1, none⟩ (.bool true)) := by
  obtain ⟨A, n, c, hp, hr, hn, hc, hd⟩ := h
  have hm : Mod (fun b => b = p) w ((w.drewN q).setCell ⟨p, 1, none⟩ (.bool true)) := by (repeat' (first | exact Mod.refl _ _ | assumption | refine Mod.alloc ?_ _ | refine Mod.drew ?_ | refine Mod.drewN ?_ _ | refine Mod.setCell ?_ (by first | exact Or.inl rfl | (right; simp; done) | (right; simp; omega) | (left; simp; done)) _))
  refine ⟨⟨A, n, c, hp_eq (hp_set (hp_drewN hp q) 1 _) rfl, ?_, hn, hc, fun b hb => ⟨(hd b hb).1, Nat.lt_of_lt_of_le (hd b hb).2 hm.size⟩⟩, hm⟩
  exact hr.keep (hm.agree fun b hb => ⟨(hd b hb).2, (hd b hb).1⟩)
/-- What a taking answers and leaves. -/
def TakeEnds (D : Nat → Prop) (p T : Nat) (s : Bs) (bad : Bool) (t : UInt8) (w : World) (r : Ending) (w' : World) : Prop :=
  (match if bad = true then none else takeV t s with
    | none => r = .returned (.tuple #[.slice none 0 0, .bool false]) ∧ RrAt D p T w' s true
    | some (b, s') => ∃ A', r = .returned (.tuple #[.slice A' b.length b.length, .bool true]) ∧ Rd D w' 1 csU A' b ∧ RrAt D p T w' s' false) ∧ Mod (fun b => b = p) w w'
set_option maxRecDepth 100000 in
set_option maxHeartbeats 4000000 in
theorem rtake_any (D : Nat → Prop) (p T : Nat) (s : Bs) (bad : Bool) (t : UInt8) (w : World) (h : RrAt D p T w s bad) (hsz : s.length ≤ 1099511627776) :
    Calls Tryz.prog 77 #[.pointer (some ⟨p, 0, none⟩), .int .u8 (t.toNat : Int)] w (TakeEnds D p T s bad t w) := by
  have HH := Lib.hid h
  have HT := Lib.hid (rthere_any D p T s bad w h)
  obtain ⟨A, n, c, hp, hr, hn, hc, hd⟩ := h
  have q0 : w.cell? ⟨p, 0, none⟩ = some (.slice A n c) := by rw [hp_cell hp]; rfl
  have q1 : w.cell? ⟨p, 0 + 1, none⟩ = some (.bool bad) := by rw [hp_cell hp]; rfl
  have q1' : w.cell? ⟨p, 1, none⟩ = some (.bool bad) := by rw [hp_cell hp]; rfl
  have f0 : w.frozen? ⟨p, 0, none⟩ = false := hp_free hp _
  have f1 : w.frozen? ⟨p, 0 + 1, none⟩ = false := hp_free hp _
  have f1' : w.frozen? ⟨p, 1, none⟩ = false := hp_free hp _
  have hf := tfirst_any _ A c s w hr hsz (by rw [← hn]; exact hc)
  rw [← hn] at hf hsz
  have HF := Lib.hid hf
  have HP := Lib.hid hp
  have HR := Lib.hid hr
  have HN := Lib.hid hn
  have HDD := Lib.hid hd
  clear hp hr hn hf hd
  cases bad
  · cases hv : firstV s with
    | none =>
      have HV := Lib.hid hv
      have HE := Lib.hid (show takeV t s = none by unfold takeV; rw [hv])
      clear hv
      go_enter Tryz.func77, Tryz.ntmps77
      go_wp2_with (first
        | (go_at_call 96
           refine HT.out.mono ?_
           rintro r w1 ⟨rfl, rfl⟩)
        | (go_at_call 97
           refine HF.out.mono ?_
           rintro r w1 ⟨hr1, q, rfl⟩
           rw [HV.out] at hr1
           simp only at hr1
           subst hr1)
        | fail)
      refine bodyPost_ret (v := .tuple #[.slice none 0 0, .bool false]) (by simp [results, Tryz.results77, go_sem]) rfl ⟨?_, (HH.out.fault q).2⟩
      rw [if_neg (by simp), HE.out]
      exact ⟨rfl, (HH.out.fault q).1⟩
    | some v =>
      obtain ⟨t', b, k⟩ := v
      obtain ⟨hk0, hk1, hk2, hk3, -⟩ := firstV_some hv
      rw [← HN.out] at hk3
      obtain ⟨b1, o1, hA1, -, -⟩ := rdU (k := 0) HR.out (by rw [← HN.out]; omega)
      subst hA1
      have HV := Lib.hid hv
      have kk : ((k : Int) == 0) = false := by rw [beq_eq_false_iff_ne]; omega
      by_cases ht : t' = t
      · subst ht
        have HE := Lib.hid (show takeV t' s = some (b, s.drop k) by unfold takeV; rw [hv]; simp)
        clear hv hk0
        have HK1 := Lib.hid hk1
        clear hk1
        by_cases hkc : c = k
        · subst hkc
          go_enter Tryz.func77, Tryz.ntmps77
          go_wp2_with (first
          | (go_at_call 96
             refine HT.out.mono ?_
             rintro r w1 ⟨rfl, rfl⟩)
          | (go_at_call 97
             refine HF.out.mono ?_
             rintro r w1 ⟨hr1, q, rfl⟩
             rw [HV.out] at hr1
             simp only at hr1
             obtain ⟨A1, rfl, hrd1⟩ := hr1
             have HRd1 := Lib.hid hrd1
             clear hrd1)
          | fail)
          have hm : Mod (fun b => b = p) w ((w.drewN q).setCell ⟨p, 0, none⟩ (.slice (some ⟨b1, o1, none⟩) 0 (0))) := by (repeat' (first | exact Mod.refl _ _ | assumption | refine Mod.alloc ?_ _ | refine Mod.drew ?_ | refine Mod.drewN ?_ _ | refine Mod.setCell ?_ (by first | exact Or.inl rfl | (right; simp; done) | (right; simp; omega) | (left; simp; done)) _))
          refine bodyPost_ret (v := .tuple #[.slice A1 b.length b.length, .bool true]) (by simp [results, Tryz.results77, go_sem]) rfl ⟨?_, hm⟩
          rw [if_neg (by simp), HE.out]
          refine ⟨A1, rfl, HRd1.out.keep (hm.agree fun b hb => ⟨(HDD.out b hb).2, (HDD.out b hb).1⟩), ⟨some ⟨b1, o1, none⟩, 0, 0, hp_eq (hp_set (hp_drewN HP.out q) 0 _) rfl, ?_, by rw [List.length_drop, ← HN.out]; omega, by omega, fun b hb => ⟨(HDD.out b hb).1, Nat.lt_of_lt_of_le (HDD.out b hb).2 hm.size⟩⟩⟩
          refine Rd.keep (w := w) ?_ (hm.agree fun b hb => ⟨(HDD.out b hb).2, (HDD.out b hb).1⟩)
          rw [List.drop_eq_nil_of_le (by rw [← HN.out]; omega)]
          exact Rd.nil _ _ _ _ _
        · go_enter Tryz.func77, Tryz.ntmps77
          go_wp2_with (first
          | (go_at_call 96
             refine HT.out.mono ?_
             rintro r w1 ⟨rfl, rfl⟩)
          | (go_at_call 97
             refine HF.out.mono ?_
             rintro r w1 ⟨hr1, q, rfl⟩
             rw [HV.out] at hr1
             simp only at hr1
             obtain ⟨A1, rfl, hrd1⟩ := hr1
             have HRd1 := Lib.hid hrd1
             clear hrd1)
          | fail)
          have hm : Mod (fun b => b = p) w ((w.drewN q).setCell ⟨p, 0, none⟩ (.slice (some ⟨b1, o1 + k, none⟩) (n - k) (c - k))) := by (repeat' (first | exact Mod.refl _ _ | assumption | refine Mod.alloc ?_ _ | refine Mod.drew ?_ | refine Mod.drewN ?_ _ | refine Mod.setCell ?_ (by first | exact Or.inl rfl | (right; simp; done) | (right; simp; omega) | (left; simp; done)) _))
          refine bodyPost_ret (v := .tuple #[.slice A1 b.length b.length, .bool true]) (by simp [results, Tryz.results77, go_sem]) rfl ⟨?_, hm⟩
          rw [if_neg (by simp), HE.out]
          refine ⟨A1, rfl, HRd1.out.keep (hm.agree fun b hb => ⟨(HDD.out b hb).2, (HDD.out b hb).1⟩), ⟨some ⟨b1, o1 + k, none⟩, n - k, c - k, hp_eq (hp_set (hp_drewN HP.out q) 0 _) rfl, ?_, by rw [List.length_drop, HN.out], by omega, fun b hb => ⟨(HDD.out b hb).1, Nat.lt_of_lt_of_le (HDD.out b hb).2 hm.size⟩⟩⟩
          refine Rd.keep (w := w) ?_ (hm.agree fun b hb => ⟨(HDD.out b hb).2, (HDD.out b hb).1⟩)
          have h := rd_drop HR.out (j := k) (by rw [← HN.out]; exact hk3)
          rw [Nat.mul_one] at h
          exact h
      · have ht1 : ¬ t'.toNat = t.toNat := fun e => ht (UInt8.toNat_inj.1 e)
        have HE := Lib.hid (show takeV t s = none by unfold takeV; rw [hv]; simp [ht])
        have HK1 := Lib.hid hk1
        clear hv hk0 ht hk1
        go_enter Tryz.func77, Tryz.ntmps77
        go_wp2_with (first
        | (go_at_call 96
           refine HT.out.mono ?_
           rintro r w1 ⟨rfl, rfl⟩)
        | (go_at_call 97
           refine HF.out.mono ?_
           rintro r w1 ⟨hr1, q, rfl⟩
           rw [HV.out] at hr1
           simp only at hr1
           obtain ⟨A1, rfl, hrd1⟩ := hr1
           have HRd1 := Lib.hid hrd1
           clear hrd1)
        | fail)
        refine bodyPost_ret (v := .tuple #[.slice none 0 0, .bool false]) (by simp [results, Tryz.results77, go_sem]) rfl ⟨?_, (HH.out.fault q).2⟩
        rw [if_neg (by simp), HE.out]
        exact ⟨rfl, (HH.out.fault q).1⟩
  · go_enter Tryz.func77, Tryz.ntmps77
    go_wp2_with (first
      | (go_at_call 96
         refine HT.out.mono ?_
         rintro r w1 ⟨rfl, rfl⟩)
      | fail)
    refine bodyPost_ret (v := .tuple #[.slice none 0 0, .bool false]) (by simp [results, Tryz.results77, go_sem]) rfl ⟨⟨rfl, HH.out⟩, by (repeat' (first | exact Mod.refl _ _ | assumption | refine Mod.alloc ?_ _ | refine Mod.drew ?_ | refine Mod.drewN ?_ _ | refine Mod.setCell ?_ (by first | exact Or.inl rfl | (right; simp; done) | (right; simp; omega) | (left; simp; done)) _))⟩
end Go.Proofs.YtmalclclopnlnaaGreat
/-
  The package tlv: a reader takes bytes, a text.
-/
namespace Go.Proofs.YtmalclclopnlnaaGreat
open Go.RowKit Go.Shelf
attribute [local go_sem] Oper.semAt_some

/-- What is taken, and what is left. -/
def gotV (t : UInt8) (s : Bs) (bad : Bool) : Bs × Bs × Bool := match if bad = true then none else takeV t s with
  | none => ([], s, true)
  | some (b, s') => (b, s', false)
theorem rtake_got {D : Nat → Prop} {p T : Nat} {s : Bs} {bad : Bool} {t : UInt8} {w : World} {r : Ending} {w' : World} (h : TakeEnds D p T s bad t w r w') :
    ∃ A ok, r = .returned (.tuple #[.slice A (gotV t s bad).1.length (gotV t s bad).1.length, .bool ok]) ∧ Rd D w' 1 csU A (gotV t s bad).1 ∧ RrAt D p T w' (gotV t s bad).2.1 (gotV t s bad).2.2 ∧ Mod (fun b => b = p) w w' := by
  obtain ⟨h1, h2⟩ := h
  unfold gotV
  split at h1
  · rename_i e
    obtain ⟨rfl, h3⟩ := h1
    try rw [e]
    exact ⟨none, false, rfl, Rd.nil _ _ _ _ _, h3, h2⟩
  · rename_i b s' e
    obtain ⟨A', rfl, h3, h4⟩ := h1
    try rw [e]
    exact ⟨A', true, rfl, h3, h4, h2⟩
/-- What the reader's Bytes answers and leaves. -/
def GotEnds (D : Nat → Prop) (p T : Nat) (g : Bs × Bs × Bool) (w : World) (r : Ending) (w' : World) : Prop :=
  ∃ A, r = .returned (.slice A g.1.length g.1.length) ∧ Rd D w' 1 csU A g.1 ∧ RrAt D p T w' g.2.1 g.2.2 ∧ Mod (fun b => b = p) w w'
theorem rbytes_any (D : Nat → Prop) (p T : Nat) (s : Bs) (bad : Bool) (t : UInt8) (w : World) (h : RrAt D p T w s bad) (hsz : s.length ≤ 1099511627776) :
    Calls Tryz.prog 54 #[.pointer (some ⟨p, 0, none⟩), .int .u8 (t.toNat : Int)] w (GotEnds D p T (gotV t s bad) w) := by
  have HT := Lib.hid (rtake_any D p T s bad t w h hsz)
  obtain ⟨g, hg⟩ : ∃ g, g = gotV t s bad := ⟨_, rfl⟩
  have HG := Lib.hid hg
  rw [← hg]
  clear hg h hsz
  go_enter Tryz.func54, Tryz.ntmps54
  go_wp2_with (first
    | (go_at_call 77
       refine HT.out.mono ?_
       intro r w1 hr1
       obtain ⟨A1, ok1, hr2, hrd, hat, hm⟩ := rtake_got hr1
       rw [← HG.out] at hr2 hrd hat
       subst hr2
       have HRd := Lib.hid hrd
       have HAt := Lib.hid hat
       have HM := Lib.hid hm
       clear hr1 hrd hat hm)
    | fail)
  go_ret
  exact ⟨A1, rfl, HRd.out, HAt.out, HM.out⟩
theorem rtext_any (D : Nat → Prop) (p T : Nat) (s : Bs) (bad : Bool) (t : UInt8) (w : World) (h : RrAt D p T w s bad) (hsz : s.length ≤ 1099511627776) :
    Calls Tryz.prog 78 #[.pointer (some ⟨p, 0, none⟩), .int .u8 (t.toNat : Int)] w fun r w' => r = .returned (.string ⟨(gotV t s bad).1.toArray⟩) ∧ RrAt D p T w' (gotV t s bad).2.1 (gotV t s bad).2.2 ∧ Mod (fun b => b = p) w w' := by
  have HT := Lib.hid (rbytes_any D p T s bad t w h hsz)
  obtain ⟨g, hg⟩ : ∃ g, g = gotV t s bad := ⟨_, rfl⟩
  rw [← hg] at HT ⊢
  clear hg h hsz
  go_enter Tryz.func78, Tryz.ntmps78
  go_wp2_with (first
    | (go_at_call 54
       refine HT.out.mono ?_
       rintro r w1 ⟨A1, rfl, hrd, hat, hm⟩
       have qs := run_str_of hrd g.1.length
       have HAt := Lib.hid hat
       have HM := Lib.hid hm
       clear hrd hat hm)
    | fail)
  go_ret
  exact ⟨rfl, HAt.out, HM.out⟩
end Go.Proofs.YtmalclclopnlnaaGreat
/-
  The package tlv: a reader's begin.
-/
namespace Go.Proofs.YtmalclclopnlnaaGreat
open Go.RowKit Go.Shelf
attribute [local go_sem] Oper.semAt_some

/-- Read: a reader of what is laid before it, in a block of the call's own. -/
theorem tread_any (D : Nat → Prop) (A : Option Addr) (c : Nat) (xs : Bs) (w : World) (hA : Rd D w 1 csU A xs) (hl : xs.length ≤ 1099511627776) :
    Calls Tryz.prog 48 #[.slice A xs.length c] w fun r w' => ∃ p T D, r = .returned (.pointer (some ⟨p, 0, none⟩)) ∧ w.heap.size ≤ p ∧ (∀ b, D b → w.heap.size ≤ b) ∧ RrAt D p T w' xs false ∧ Mod (fun _ => False) w w' := by
  have HC := Lib.hid (uclone_any D A c xs w hA hl)
  obtain ⟨n, hn⟩ : ∃ n, n = xs.length := ⟨_, rfl⟩
  rw [← hn] at HC ⊢
  have HN := Lib.hid hn
  clear hn hA hl
  go_enter Tryz.func48, Tryz.ntmps48
  go_wp2_with (first
    | (go_at_call 74
       refine HC.out.mono ?_
       rintro r w1 ⟨A1, c1, rfl, hown, hm⟩
       have HO1 := Lib.hid hown
       have HM1 := Lib.hid hm
       clear hown hm)
    | fail)
  go_ret
  refine ⟨_, _, fun b => (Value.slice A1 n c1).ownBlock = some b, rfl, HM1.out.size, fun b hb => (HO1.out.fresh b hb).1, ⟨A1, n, c1, hp_new _ _, ?_, HN.out, (HO1.out.cap rfl).1, fun b hb => ?_⟩, HM1.out.alloc _⟩
  · exact Rd.keep (rd_of5 HO1.out csU_len) (Agree.below ((Below.refl _ w1).alloc (Nat.le_refl _) _) fun b hb => (HO1.out.fresh b hb).2)
  · have := (HO1.out.fresh b hb).2
    exact ⟨by omega, by simp; omega⟩
end Go.Proofs.YtmalclclopnlnaaGreat
