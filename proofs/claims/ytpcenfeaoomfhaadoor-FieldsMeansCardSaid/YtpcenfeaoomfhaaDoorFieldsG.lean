/-
  Texts of code points.
-/
import Derived.Test.YtpcenfeaoomfhaaDoorFieldsE
import Derived.Laws.IdiomStrings
import Derived.Laws.BytesArg
namespace Go.Proofs.YtpcenfeaoomfhaaDoor
open Go.RowKit Go.Shelf
attribute [local go_sem] Oper.semAt_some

theorem u8s_t : SliceT Tryd.prog 50 5 1 1 := SliceT.mk' (z := .int .u8 0) Tryd.underlying50 (by kernel_rfl) rfl (by decide)
theorem run_str_of {D : Nat → Prop} {w : World} {A : Option Addr} {xs : Bs} (hr : Rd D w 1 csU A xs) (c : Nat) : (convert 50 9 (.slice A xs.length c)).run Tryd.prog w = .ok (.string ⟨xs.toArray⟩) w := by
  rcases A with _ | a
  · have h0 : xs = [] := by
      cases xs with
      | nil => rfl
      | cons y r => obtain ⟨b, off, h, _⟩ := hr (by simp); cases h
    subst h0
    exact run_convert_bytes_nil w 50 5 Tryd.underlying50 Tryd.underlying5 0 c 9 Tryd.underlying9
  · refine run_convert_bytes_back w 50 9 5 a c xs Tryd.underlying50 Tryd.underlying5 Tryd.underlying9 (fun j hj => ?_)
    obtain ⟨b, off, he, _, hc⟩ := hr (by omega)
    cases he
    rw [addr_add]
    have := hc j hj 0 _ rfl
    simpa using this
def digitsS : ByteArray := ⟨#[48, 49, 50, 51, 52, 53, 54, 55, 56, 57, 65, 66, 67, 68, 69, 70]⟩
theorem digits_at : ∀ (m : Nat) (_ : m < 16) (h : m < 16), (⟨#[48, 49, 50, 51, 52, 53, 54, 55, 56, 57, 65, 66, 67, 68, 69, 70]⟩ : ByteArray)[m]'h = hexB m := by
  intro m hm h
  have : ∀ i : Fin 16, (⟨#[48, 49, 50, 51, 52, 53, 54, 55, 56, 57, 65, 66, 67, 68, 69, 70]⟩ : ByteArray)[i.val]'i.isLt = hexB i.val := by decide
  exact this ⟨m, hm⟩

set_option maxRecDepth 100000 in
set_option maxHeartbeats 2000000 in
theorem rctext_any (r : Int) (w : World) : Calls Tryd.prog 19 #[.int .i32 r] w fun e w' => e = .returned (.string ⟨(ctext r).toArray⟩) ∧ Mod (fun _ => False) w w' := by
  by_cases h0 : r < 0
  · rw [ctext_bad (.inl h0)]
    go_enter Tryd.func19, Tryd.ntmps19
    go_wp2
    go_ret
    exact ⟨rfl, Mod.refl _ _⟩
  by_cases h1 : 1114111 < r
  · rw [ctext_bad (.inr h1)]
    go_enter Tryd.func19, Tryd.ntmps19
    go_wp2
    go_ret
    exact ⟨rfl, Mod.refl _ _⟩
  obtain ⟨n, rfl⟩ := Int.eq_ofNat_of_zero_le (by omega : 0 ≤ r)
  have hn : n ≤ 1114111 := by omega
  rw [ctext_nat hn, ctN_eq n hn]
  have HGo := Lib.hid (fun k hk => ctK_go (n := n) (k := k) hn hk)
  have hK := ctK_le n
  obtain ⟨K, hKe⟩ : ∃ K, K = ctK n := ⟨_, rfl⟩
  rw [← hKe] at hK ⊢
  have HK := Lib.hid hKe
  clear hKe
  go_enter Tryd.func19, Tryd.ntmps19
  go_wp2
  go_loopw [0, 4] (fun m s wr => ∃ k : Nat, k ≤ K ∧ m = .int .i32 ((n / 16 ^ k : Nat) : Int) ∧ s = .string ⟨(ctW n k).toArray⟩ ∧ Mod (fun _ => False) w wr) (fun _ s _ => 6 - lenS s)
  case atStart => exact ⟨0, Nat.zero_le _, by simp, rfl, Mod.refl _ _⟩
  case round =>
    obtain ⟨k, hk, rfl, rfl, hm⟩ := hrel
    have HM := Lib.hid hm
    have hle : n / 16 ^ k ≤ n := Nat.div_le_self _ _
    have hlen := ctW_len n k
    have hgo := HGo.out k (by rw [← HK.out]; exact hk)
    rw [← HK.out] at hgo
    obtain ⟨m, hm'⟩ : ∃ m, m = n / 16 ^ k := ⟨_, rfl⟩
    rw [← hm'] at hgo hle ⊢
    have HMe := Lib.hid hm'
    clear hm hm'
    by_cases hlt : k < K
    · have hor : decide (0 < (m : Int)) = true ∨ decide ((k : Int) < 4) = true := by
        rcases hgo.2 hlt with h | h
        · left; simp; omega
        · right; simp; omega
      have hm16 : m % 16 < 16 := Nat.mod_lt _ (by decide)
      have hdg := digits_at (m % 16) hm16
      have hdg' : ∀ h, (⟨#[48, 49, 50, 51, 52, 53, 54, 55, 56, 57, 65, 66, 67, 68, 69, 70]⟩ : ByteArray)[((m : Int) % 16).toNat]'h = hexB (m % 16) := fun h => hdg _
      have HR := Lib.hid (show ∀ X : World, ∀ Z : World, Z = X.alloc (.cells #[.int .u8 ((hexB (m % 16)).toNat : Int)] 5) → (convert 50 9 (.slice (some ⟨X.heap.size, 0, none⟩) 1 1)).run Tryd.prog Z = .ok (.string ⟨#[hexB (m % 16)]⟩) Z from fun X Z hZ => by
        subst hZ
        exact run_str_of (Rd.one (x := hexB (m % 16)) (hp_new X _) rfl) 1)
      have hcv := HR.out wr _ rfl
      clear HR hor
      obtain ⟨x1, e1⟩ : ∃ x, decide (0 < (m : Int)) = x := ⟨_, rfl⟩
      obtain ⟨x2, e2⟩ : ∃ x, decide ((k : Int) < 4) = x := ⟨_, rfl⟩
      have e2' : decide (k < 4) = x2 := by rw [← e2]; simp; omega
      have e1' : decide (0 < m) = x1 := by rw [← e1]; simp
      have hx : x1 = true ∨ x2 = true := by
        rcases hgo.2 hlt with h | h
        · left; rw [← e1']; simpa using h
        · right; rw [← e2']; simpa using h
      clear hgo
      cases x1 <;> cases x2
      · simp at hx
      all_goals
        clear hx
        go_wp2
        refine ⟨⟨k + 1, by omega, ?_, ?_, by have := HM.out; (repeat' (first | exact Mod.refl _ _ | assumption | refine Mod.alloc ?_ _ | refine Mod.drew ?_ | refine Mod.drewN ?_ _ | refine Mod.setCell ?_ (by first | exact Or.inl rfl | (right; simp; done) | (right; simp; omega) | (left; simp; done)) _))⟩, ?_⟩
        · congr 1
          rw [HMe.out, Nat.pow_succ, ← Nat.div_div_eq_div_mul]; simp
        · rw [ctW, ← HMe.out]
          exact congrArg Value.string (mk_app [hexB (m % 16)] (ctW n k))
        · rw [show (⟨#[hexB (m % 16)]⟩ : ByteArray) = ⟨[hexB (m % 16)].toArray⟩ from rfl, mk_app]
          simp only [lenS, mk_size, hlen, List.length_append, List.length_cons, List.length_nil]; omega
    · have hx1 : decide (0 < (m : Int)) = false := by
        simp
        rcases Nat.eq_zero_or_pos m with h | h
        · exact h
        · exact absurd (hgo.1 (.inl h)) hlt
      have hx1' : decide (0 < m) = false := by simpa using hx1
      have hx2' : decide (k < 4) = false := by
        simp
        rcases Nat.lt_or_ge k 4 with h | h
        · exact absurd (hgo.1 (.inr h)) hlt
        · exact h
      have hx2 : decide ((k : Int) < 4) = false := by simp at hx2' ⊢; omega
      obtain rfl : k = K := by omega
      clear hgo
      go_wp2
      go_ret
      exact ⟨rfl, HM.out⟩

def shf : Nat → Int | 0 => 20 | 1 => 16 | 2 => 12 | 3 => 8 | 4 => 4 | 5 => 0 | _ => -4
set_option maxRecDepth 100000 in
set_option maxHeartbeats 8000000 in
theorem fctext_any (r : Int) (w : World) : Calls Tryd.prog 11 #[.int .i32 r] w fun e w' => e = .returned (.string ⟨(ctext r).toArray⟩) ∧ Mod (fun _ => False) w w' := by
  by_cases h0 : r < 0
  · rw [ctext_bad (.inl h0)]
    go_enter Tryd.func11, Tryd.ntmps11
    go_wp2
    go_ret
    exact ⟨rfl, Mod.refl _ _⟩
  by_cases h1 : 1114111 < r
  · rw [ctext_bad (.inr h1)]
    go_enter Tryd.func11, Tryd.ntmps11
    go_wp2
    go_ret
    exact ⟨rfl, Mod.refl _ _⟩
  obtain ⟨n, hrn⟩ := Int.eq_ofNat_of_zero_le (by omega : 0 ≤ r)
  have hn : n ≤ 1114111 := by omega
  rw [show ctext r = ctN n by rw [hrn]; exact ctext_nat hn]
  have HRN := Lib.hid hrn
  clear hrn
  have H0 := Lib.hid (OwnS.nil w.heap.size 5 1 csU w)
  obtain ⟨T, hT⟩ : ∃ T, T = ctN n := ⟨_, rfl⟩
  rw [← hT]
  have HT := Lib.hid hT
  clear hT
  go_enter Tryd.func11, Tryd.ntmps11
  go_wp2
  go_loopw [3, 4] (fun v i wr => ∃ k : Nat, k ≤ 6 ∧ i = .int .i64 (shf k) ∧ OwnS w.heap.size 5 1 csU wr v (ctV n k) ∧ Mod (fun _ => False) w wr) (fun _ i _ => (intOf i + 4).toNat)
  case atStart => exact ⟨0, Nat.zero_le _, rfl, H0.out, Mod.refl _ _⟩
  case round =>
    obtain ⟨k, hk, rfl, hown, hm⟩ := hrel
    have HO := Lib.hid hown
    have HM := Lib.hid hm
    clear hown hm H0
    obtain rfl | rfl | rfl | rfl | rfl | rfl | rfl : k = 6 ∨ k = 0 ∨ k = 1 ∨ k = 2 ∨ k = 3 ∨ k = 4 ∨ k = 5 := by omega
    · simp only [shf]
      obtain ⟨A, c, hv, hrd, -⟩ := HO.out.rd csU_len
      have hcv := run_str_of hrd c
      have hcv : (convert 50 9 (.slice A (ctV n 6).length c)).run Tryd.prog wr = .ok (.string ⟨T.toArray⟩) wr := by rw [hcv, HT.out]; rfl
      rw [hv]
      obtain ⟨q, hq⟩ : ∃ q, q = (ctV n 6).length := ⟨_, rfl⟩
      rw [← hq] at hcv ⊢
      clear hrd hv hq
      go_wp2
      go_ret
      exact ⟨rfl, HM.out⟩
    · simp only [shf]
      obtain ⟨D, hD⟩ : ∃ D, D = n / 1048576 := ⟨_, rfl⟩
      have hDn : D ≤ n := by rw [hD]; exact Nat.div_le_self _ _
      have hdi : r / 1048576 = (D : Int) := by rw [hD, HRN.out]; simp
      have hb : bits .and .i32 (r / 1048576) 15 = ((D % 16 : Nat) : Int) := by rw [hdi]; exact i32_and15 D (by omega)
      have hdg := digits_at (D % 16) (Nat.mod_lt _ (by decide))
      have HP := Lib.hid (show pieceT n 5 = if 0 < D ∨ 5 < 4 then [hexB (D % 16)] else [] by unfold pieceT; rw [hD])
      have hlen := ctV_len n 0
      have hV := Lib.hid (show ctV n (0 + 1) = ctV n 0 ++ pieceT n 5 from rfl)
      obtain ⟨x1, e1⟩ : ∃ x, decide (0 < r / 1048576) = x := ⟨_, rfl⟩
      have hx1 : x1 = decide (0 < D) := by rw [← e1, hdi]; simp
      have HX1 := Lib.hid hx1
      clear hD hdi hx1
      cases x1
      · go_wp2
        exact ⟨⟨1, by omega, rfl, by rw [hV.out, HP.out, if_neg (by have := HX1.out; simp at this; omega), List.append_nil]; exact HO.out, HM.out⟩, by simp only [intOf]; decide⟩
      · go_wp2_with (at_builtin
                     refine wpList_app1 (w0 := w) (xs := ctV n 0) (y := hexB (D % 16)) rfl (.tmp 25) (.tmp 29) rfl u8s_t csU_len csU_one rfl HO.out HM.out rfl ?_ ?_ ?_ ?_
                     · rfl
                     · simp [maxLen]; omega
                     · omega
                     intro v' w2 hown2 hm2 _ _
                     have HO2 := Lib.hid hown2
                     have HM2 := Lib.hid hm2
                     clear hown2 hm2)
        exact ⟨⟨1, by omega, rfl, by rw [hV.out, HP.out, if_pos (by have := HX1.out; simp at this; omega)]; exact HO2.out, HM2.out⟩, by simp only [intOf]; decide⟩
    · simp only [shf]
      obtain ⟨D, hD⟩ : ∃ D, D = n / 65536 := ⟨_, rfl⟩
      have hDn : D ≤ n := by rw [hD]; exact Nat.div_le_self _ _
      have hdi : r / 65536 = (D : Int) := by rw [hD, HRN.out]; simp
      have hb : bits .and .i32 (r / 65536) 15 = ((D % 16 : Nat) : Int) := by rw [hdi]; exact i32_and15 D (by omega)
      have hdg := digits_at (D % 16) (Nat.mod_lt _ (by decide))
      have HP := Lib.hid (show pieceT n 4 = if 0 < D ∨ 4 < 4 then [hexB (D % 16)] else [] by unfold pieceT; rw [hD])
      have hlen := ctV_len n 1
      have hV := Lib.hid (show ctV n (1 + 1) = ctV n 1 ++ pieceT n 4 from rfl)
      obtain ⟨x1, e1⟩ : ∃ x, decide (0 < r / 65536) = x := ⟨_, rfl⟩
      have hx1 : x1 = decide (0 < D) := by rw [← e1, hdi]; simp
      have HX1 := Lib.hid hx1
      clear hD hdi hx1
      cases x1
      · go_wp2
        exact ⟨⟨2, by omega, rfl, by rw [hV.out, HP.out, if_neg (by have := HX1.out; simp at this; omega), List.append_nil]; exact HO.out, HM.out⟩, by simp only [intOf]; decide⟩
      · go_wp2_with (at_builtin
                     refine wpList_app1 (w0 := w) (xs := ctV n 1) (y := hexB (D % 16)) rfl (.tmp 25) (.tmp 29) rfl u8s_t csU_len csU_one rfl HO.out HM.out rfl ?_ ?_ ?_ ?_
                     · rfl
                     · simp [maxLen]; omega
                     · omega
                     intro v' w2 hown2 hm2 _ _
                     have HO2 := Lib.hid hown2
                     have HM2 := Lib.hid hm2
                     clear hown2 hm2)
        exact ⟨⟨2, by omega, rfl, by rw [hV.out, HP.out, if_pos (by have := HX1.out; simp at this; omega)]; exact HO2.out, HM2.out⟩, by simp only [intOf]; decide⟩
    · simp only [shf]
      obtain ⟨D, hD⟩ : ∃ D, D = n / 4096 := ⟨_, rfl⟩
      have hDn : D ≤ n := by rw [hD]; exact Nat.div_le_self _ _
      have hdi : r / 4096 = (D : Int) := by rw [hD, HRN.out]; simp
      have hb : bits .and .i32 (r / 4096) 15 = ((D % 16 : Nat) : Int) := by rw [hdi]; exact i32_and15 D (by omega)
      have hdg := digits_at (D % 16) (Nat.mod_lt _ (by decide))
      have HP := Lib.hid (show pieceT n 3 = if 0 < D ∨ 3 < 4 then [hexB (D % 16)] else [] by unfold pieceT; rw [hD])
      have hlen := ctV_len n 2
      have hV := Lib.hid (show ctV n (2 + 1) = ctV n 2 ++ pieceT n 3 from rfl)
      obtain ⟨x1, e1⟩ : ∃ x, decide (0 < r / 4096) = x := ⟨_, rfl⟩
      have hx1 : x1 = decide (0 < D) := by rw [← e1, hdi]; simp
      have HX1 := Lib.hid hx1
      clear hD hdi hx1
      cases x1
      all_goals
        go_wp2_with (at_builtin
                     refine wpList_app1 (w0 := w) (xs := ctV n 2) (y := hexB (D % 16)) rfl (.tmp 25) (.tmp 29) rfl u8s_t csU_len csU_one rfl HO.out HM.out rfl ?_ ?_ ?_ ?_
                     · rfl
                     · simp [maxLen]; omega
                     · omega
                     intro v' w2 hown2 hm2 _ _
                     have HO2 := Lib.hid hown2
                     have HM2 := Lib.hid hm2
                     clear hown2 hm2)
        exact ⟨⟨3, by omega, rfl, by rw [hV.out, HP.out, if_pos (.inr (by decide))]; exact HO2.out, HM2.out⟩, by simp only [intOf]; decide⟩
    · simp only [shf]
      obtain ⟨D, hD⟩ : ∃ D, D = n / 256 := ⟨_, rfl⟩
      have hDn : D ≤ n := by rw [hD]; exact Nat.div_le_self _ _
      have hdi : r / 256 = (D : Int) := by rw [hD, HRN.out]; simp
      have hb : bits .and .i32 (r / 256) 15 = ((D % 16 : Nat) : Int) := by rw [hdi]; exact i32_and15 D (by omega)
      have hdg := digits_at (D % 16) (Nat.mod_lt _ (by decide))
      have HP := Lib.hid (show pieceT n 2 = if 0 < D ∨ 2 < 4 then [hexB (D % 16)] else [] by unfold pieceT; rw [hD])
      have hlen := ctV_len n 3
      have hV := Lib.hid (show ctV n (3 + 1) = ctV n 3 ++ pieceT n 2 from rfl)
      obtain ⟨x1, e1⟩ : ∃ x, decide (0 < r / 256) = x := ⟨_, rfl⟩
      have hx1 : x1 = decide (0 < D) := by rw [← e1, hdi]; simp
      have HX1 := Lib.hid hx1
      clear hD hdi hx1
      cases x1
      all_goals
        go_wp2_with (at_builtin
                     refine wpList_app1 (w0 := w) (xs := ctV n 3) (y := hexB (D % 16)) rfl (.tmp 25) (.tmp 29) rfl u8s_t csU_len csU_one rfl HO.out HM.out rfl ?_ ?_ ?_ ?_
                     · rfl
                     · simp [maxLen]; omega
                     · omega
                     intro v' w2 hown2 hm2 _ _
                     have HO2 := Lib.hid hown2
                     have HM2 := Lib.hid hm2
                     clear hown2 hm2)
        exact ⟨⟨4, by omega, rfl, by rw [hV.out, HP.out, if_pos (.inr (by decide))]; exact HO2.out, HM2.out⟩, by simp only [intOf]; decide⟩
    · simp only [shf]
      obtain ⟨D, hD⟩ : ∃ D, D = n / 16 := ⟨_, rfl⟩
      have hDn : D ≤ n := by rw [hD]; exact Nat.div_le_self _ _
      have hdi : r / 16 = (D : Int) := by rw [hD, HRN.out]; simp
      have hb : bits .and .i32 (r / 16) 15 = ((D % 16 : Nat) : Int) := by rw [hdi]; exact i32_and15 D (by omega)
      have hdg := digits_at (D % 16) (Nat.mod_lt _ (by decide))
      have HP := Lib.hid (show pieceT n 1 = if 0 < D ∨ 1 < 4 then [hexB (D % 16)] else [] by unfold pieceT; rw [hD])
      have hlen := ctV_len n 4
      have hV := Lib.hid (show ctV n (4 + 1) = ctV n 4 ++ pieceT n 1 from rfl)
      obtain ⟨x1, e1⟩ : ∃ x, decide (0 < r / 16) = x := ⟨_, rfl⟩
      have hx1 : x1 = decide (0 < D) := by rw [← e1, hdi]; simp
      have HX1 := Lib.hid hx1
      clear hD hdi hx1
      cases x1
      all_goals
        go_wp2_with (at_builtin
                     refine wpList_app1 (w0 := w) (xs := ctV n 4) (y := hexB (D % 16)) rfl (.tmp 25) (.tmp 29) rfl u8s_t csU_len csU_one rfl HO.out HM.out rfl ?_ ?_ ?_ ?_
                     · rfl
                     · simp [maxLen]; omega
                     · omega
                     intro v' w2 hown2 hm2 _ _
                     have HO2 := Lib.hid hown2
                     have HM2 := Lib.hid hm2
                     clear hown2 hm2)
        exact ⟨⟨5, by omega, rfl, by rw [hV.out, HP.out, if_pos (.inr (by decide))]; exact HO2.out, HM2.out⟩, by simp only [intOf]; decide⟩
    · simp only [shf]
      have hlen := ctV_len n 5
      have hV := Lib.hid (show ctV n (5 + 1) = ctV n 5 ++ [hexB (n % 16)] by show ctV n 5 ++ pieceT n 0 = _; unfold pieceT; simp)
      have hb : bits .and .i32 r 15 = ((n % 16 : Nat) : Int) := by rw [HRN.out]; exact i32_and15 n (by omega)
      have hdg := digits_at (n % 16) (Nat.mod_lt _ (by decide))
      obtain ⟨x1, e1⟩ : ∃ x, decide (0 < r) = x := ⟨_, rfl⟩
      cases x1
      all_goals
        go_wp2_with (at_builtin
                     refine wpList_app1 (w0 := w) (xs := ctV n 5) (y := hexB (n % 16)) rfl (.tmp 25) (.tmp 29) rfl u8s_t csU_len csU_one rfl HO.out HM.out rfl ?_ ?_ ?_ ?_
                     · rfl
                     · simp [maxLen]; omega
                     · omega
                     intro v' w2 hown2 hm2 _ _
                     have HO2 := Lib.hid hown2
                     have HM2 := Lib.hid hm2
                     clear hown2 hm2)
        exact ⟨⟨6, by omega, rfl, by rw [hV.out]; exact HO2.out, HM2.out⟩, by simp only [intOf]; decide⟩
end Go.Proofs.YtpcenfeaoomfhaaDoor
