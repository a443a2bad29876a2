/-
  The library's Clone, IndexFunc, ContainsFunc, DeleteFunc at attributes.
-/
import Derived.Test.YtccnkcaagigceaaGreatEntryE
import Derived.Test.YtccnkcaagigceaaGreatClr
namespace Go.Proofs.YtccnkcaagigceaaGreat
open Go.RowKit Go.Shelf
attribute [local go_sem] Oper.semAt_some

set_option maxHeartbeats 1000000 in
/-- slices.Clone: what comes back holds the same, in memory of the call's own. -/
theorem aclone_any (D : Nat → Prop) (A : Option Addr) (c : Nat) (xs : List At) (w : World) (hA : Rd D w 2 At.cs A xs) (hl : xs.length ≤ 1099511627776) :
    Calls Tryz.prog 45 #[.slice A xs.length c] w fun e w' => ∃ A' c', e = .returned (.slice A' xs.length c') ∧ OwnS w.heap.size 52 2 At.cs w' (.slice A' xs.length c') xs ∧ Mod (fun _ => False) w w' := by
  obtain ⟨n, hn⟩ : ∃ n, n = xs.length := ⟨_, rfl⟩
  rw [← hn] at hl
  have HN := Lib.hid hn
  rcases A with _ | a
  · have h0 : xs = [] := by
      cases xs with
      | nil => rfl
      | cons y r => obtain ⟨b, off, h, _⟩ := hA (by simp); cases h
    subst h0
    have q22 := fun w n c => Lib.run_eql_slice_nil (P := Tryz.prog) w 22 52 none n c 0 0 Tryz.underlying22
    have H0 := Lib.hid (OwnS.nil w.heap.size 52 2 At.cs w)
    clear hn hA
    go_enter Tryz.func45, Tryz.ntmps45
    go_wp2
    go_ret
    exact ⟨none, 0, rfl, H0.out, Mod.refl _ _⟩
  · rw [← hn]
    have q22 := fun w n c => Lib.run_eql_slice_nil (P := Tryz.prog) w 22 52 (some a) n c 0 0 Tryz.underlying22
    have hmade := Lib.hid (World.ownsRow_made (base := w.heap.size) (e := 52) (size := 2) w #[] 0 (Nat.le_refl _) (Nat.zero_le _) (by simp))
    have HA := Lib.hid (show Rd (fun b => D b ∧ b < w.heap.size) w 2 At.cs (some a) xs from hA.lt At.cs_len (by decide))
    clear hn hA
    go_enter Tryz.func45, Tryz.ntmps45
    go_wp2_with (at_builtin
                 refine wpList_app (base := w.heap.size) (xs := []) (ys := xs) (D := fun b => D b ∧ b < w.heap.size) (v := .slice (some ⟨w.heap.size, 0, none⟩) 0 0) rfl (.tmp 5) (.tmp 6) rfl ats_t At.cs_len At.cs_one rfl hmade.out _ rfl HN.out (HA.out.below ((Below.refl _ w).alloc (Nat.le_refl _) _) fun b h => h.2) ?_ ?_ ?_ ?_
                 · rw [← HN.out]; simp [maxLen]; omega
                 · rw [← HN.out]; simp; omega
                 · simp
                 intro v' w2 hown2 hm2 hat2
                 rw [List.nil_append] at hown2
                 obtain ⟨A2, c2, hv2, -, hfr2, hml2⟩ := OwnS.rd hown2 At.cs_len
                 rw [← HN.out] at hv2
                 subst hv2
                 have M2 := ((Mod.refl (fun _ => False) w).alloc (.cells #[] 52)).trans hm2 (fun b hb => by simp [Value.ownBlock] at hb; right; omega)
                 clear hm2)
    go_ret
    exact ⟨A2, c2, rfl, hown2, M2⟩


def idxA (p : At → Bool) (xs : List At) : Int := match xs.findIdx? p with | some i => i | none => -1
/-- A predicate as a closure: at every world behind w, but for blocks of C. -/
def PredC (g : Nat) (lb : Array Value) (p : At → Bool) (xs : List At) (C : Nat → Prop) (w : World) : Prop :=
  ∀ x ∈ xs, ∀ X, Mod C w X → Calls Tryz.prog g (#[x.val] ++ lb) X fun e w' => e = .returned (.bool (p x)) ∧ Mod (fun _ => False) X w'
set_option maxHeartbeats 1000000 in
theorem aindex_any (g : Nat) (lb : Array Value) (p : At → Bool) (D : Nat → Prop) (A : Option Addr) (c : Nat) (xs : List At) (C : Nat → Prop) (w0 w : World) (eg : ∀ args w, (callFunc g args).run Tryz.prog w = .ok (.enter g args) w)
    (hp : PredC g lb p xs C w0) (h0 : Mod C w0 w) (hA : Rd D w 2 At.cs A xs) (hd : ∀ b, D b → b < w.heap.size) (hl : xs.length ≤ maxLen) :
    Calls Tryz.prog 60 #[.slice A xs.length c, .func (.func g) #[] lb] w fun e w' => e = .returned (.int .i64 (idxA p xs)) ∧ Mod (fun _ => False) w w' := by
  unfold maxLen at hl
  obtain ⟨z, hz⟩ : ∃ z, z = idxA p xs := ⟨_, rfl⟩
  rw [← hz]
  have HZ := Lib.hid hz
  obtain ⟨n, hn⟩ : ∃ n, n = xs.length := ⟨_, rfl⟩
  rw [← hn] at hl ⊢
  have HN := Lib.hid hn
  have HP := Lib.hid (fun x hx X (hX : Mod (fun _ => False) w X) => hp x hx X (h0.trans hX (fun _ h => h.elim)))
  have HA := Lib.hid (fun X (hX : Mod (fun _ => False) w X) => hA.mod hX (fun b hb => ⟨hd b hb, id⟩))
  clear hz hn hA hp h0
  go_enter Tryz.func60, Tryz.ntmps60
  go_wp2
  go_loopw [8] (fun i wr => ∃ k : Nat, k ≤ n ∧ i = .int .i64 k ∧ (∀ x ∈ xs.take k, p x = false) ∧ Mod (fun _ => False) w wr) (fun i _ => n - (intOf i).toNat)
  case atStart => exact ⟨0, by omega, rfl, by simp, Mod.refl _ _⟩
  case round =>
    obtain ⟨k, hk, rfl, h1, hm⟩ := hrel
    have H1 := Lib.hid h1
    have HM := Lib.hid hm
    clear h1 hm
    by_cases hlt : k < n
    · have hkx : k < xs.length := by rw [← HN.out]; exact hlt
      obtain ⟨b1, o1, rfl, -, p0, p1⟩ := rd2 (HA.out _ HM.out) hkx
      obtain ⟨x, hx⟩ : ∃ x, x = xs[k] := ⟨_, rfl⟩
      rw [← hx] at p0 p1
      have HX := Lib.hid (show xs.take (k + 1) = xs.take k ++ [x] by rw [hx]; exact List.take_succ_eq_append_getElem hkx)
      have HC := Lib.hid (HP.out x (by rw [hx]; exact List.getElem_mem hkx) wr HM.out)
      have HI := Lib.hid (show p x = true → z = (k : Int) from fun h => by
        rw [HZ.out]
        unfold idxA
        have : xs.findIdx? p = some k := by
          rw [List.findIdx?_eq_some_iff_getElem]
          refine ⟨hkx, by rw [← hx]; exact h, fun j hj => ?_⟩
          have := H1.out xs[j] (by rw [List.mem_take_iff_getElem]; exact ⟨j, by omega, rfl⟩)
          simp [this]
        rw [this])
      unfold At.val at HC
      clear hx
      cases hb : p x
      · have h2 := Lib.hid (show ∀ y ∈ xs.take (k + 1), p y = false from fun y hy => by
          rw [HX.out, List.mem_append, List.mem_singleton] at hy
          rcases hy with hy | rfl
          · exact H1.out y hy
          · exact hb)
        rw [hb] at HC
        clear hb
        go_wp2_with (first
          | ((with_reducible refine HC.out.mono ?_); rintro e w2 ⟨rfl, hm2⟩)
          | fail)
        exact ⟨⟨k + 1, by omega, by go_num, h2.out, HM.out.trans' hm2⟩, by simp only [intOf]; omega⟩
      · have hz := HI.out hb
        rw [hb] at HC
        subst hz
        clear hb
        go_wp2_with (first
          | ((with_reducible refine HC.out.mono ?_); rintro e w2 ⟨rfl, hm2⟩)
          | fail)
        go_ret
        exact ⟨rfl, HM.out.trans' hm2⟩
    · obtain rfl : k = n := by omega
      obtain rfl : z = -1 := by
        rw [HZ.out]
        unfold idxA
        have : xs.findIdx? p = none := by
          rw [List.findIdx?_eq_none_iff]
          intro y hy
          exact H1.out y (by rwa [List.take_of_length_le (by rw [← HN.out]; omega)])
        rw [this]
      go_wp2
      go_ret
      exact ⟨rfl, HM.out⟩
end Go.Proofs.YtccnkcaagigceaaGreat
