/-
  The package entry: attributes are put.
-/
import Derived.Test.YtccnkcaagigceaaGreatTlvM
import Derived.Test.YtccnkcaagigceaaGreatEntryC
import Derived.Test.YtccnkcaagigceaaGreatEntryW
import Derived.Test.YtccnkcaagigceaaGreatTlvD
import Derived.Test.YtccnkcaagigceaaGreatEntryE
namespace Go.Proofs.YtccnkcaagigceaaGreat
open Go.RowKit Go.Shelf
attribute [local go_sem] Oper.semAt_some

theorem enters_put1 : ∀ args w, (callFunc 29 args).run Tryz.prog w = .ok (.enter 29 args) w := enters_of Tryz.func29 (by kernel_rfl) rfl
theorem enters_put11 : ∀ args w, (callFunc 30 args).run Tryz.prog w = .ok (.enter 30 args) w := enters_of Tryz.func30 (by kernel_rfl) rfl
def attrL (a : At) : List (UInt8 × Bs) := [(1, a.T), (2, a.V)]
theorem valsV_attr (a : At) : valsV (attrL a) = attrI a := by simp [valsV, attrL, attrI]
theorem WrAt.in_ {O : Nat → Prop} {p T : Nat} {w w1 w' : World} {x : Wt} (hm : Mod (fun _ => False) w w1) (hp : ¬ O p) (hlt : p < w.heap.size) (h : WrAt (fun b => (O b ∧ b < w.heap.size) ∨ w1.heap.size ≤ b) p T w' x) : WrAt (fun b => O b ∨ w.heap.size ≤ b) p T w' x := by
  have := hm.size
  refine h.more (fun b hb => ?_) (fun h => ?_)
  · rcases hb with h | h
    · exact .inl h.1
    · right; omega
  · rcases h with h | h
    · exact hp h
    · omega
theorem Mod.in_ {O : Nat → Prop} {p : Nat} {w w1 w' : World} (hm : Mod (fun _ => False) w w1) (h : Mod (fun b => b = p ∨ (O b ∧ b < w.heap.size)) w1 w') : Mod (fun b => b = p ∨ O b) w w' :=
  (hm.mono fun _ _ h => h.elim).trans h fun b hb => .inl (hb.elim .inl fun h => .inr h.1)
theorem WrAt.no {O : Nat → Prop} {p T : Nat} {w : World} {x : Wt} (h : WrAt O p T w x) : ¬ O p := by
  obtain ⟨_, _, _, _, _, _, _, h5⟩ := h
  exact h5
set_option maxHeartbeats 1000000 in
theorem put11_puts (bA bI : Nat) (A : Option Addr) (c : Nat) (xs : List At) (i : Nat) (D0 : Nat → Prop) (w : World) (hA : w.cell? ⟨bA, 0, none⟩ = some (.slice A xs.length c)) (hI : w.cell? ⟨bI, 0, none⟩ = some (.int .i64 (i : Int))) (hR : Rd D0 w 2 At.cs A xs) (hi : i < xs.length) (a : At) (ha : xs[i] = a)
    (h1 : a.T.length ≤ 4194304) (h2 : a.V.length ≤ 4194304) (k : Nat) (hk : k < (attrL a).length) :
    PutsV 30 #[.pointer (some ⟨bA, 0, none⟩), .pointer (some ⟨bI, 0, none⟩)] (attrL a)[k].1 (attrL a)[k].2 k (fun b => b = bA ∨ b = bI ∨ D0 b) w := by
  intro O p b W hat hag hD hb
  have hA' := (hag.cell (p := ⟨bA, 0, none⟩) (.inl rfl)).trans hA
  have hI' := (hag.cell (p := ⟨bI, 0, none⟩) (.inr (.inl rfl))).trans hI
  have hR' := (hR.mono (D' := fun b => b = bA ∨ b = bI ∨ D0 b) fun b h => .inr (.inr h)).keep hag
  obtain ⟨g, off, rfl, -, c0, c1⟩ := rd2 hR' hi
  obtain ⟨n, hn⟩ : ∃ n, n = xs.length := ⟨_, rfl⟩
  rw [ha] at c0 c1
  rw [← hn] at hA'
  have hi2 : i < n := by rw [hn]; exact hi
  have e1 := Lib.hid (Wt.bytes_ok b (t := 1) (by decide) h1)
  have e2 := Lib.hid (Wt.bytes_ok b (t := 2) (by decide) h2)
  have hw1 := wtext_any O p 39 ⟨b, 0⟩ 1 a.T W hat hb (by omega)
  have hw2 := wtext_any O p 39 ⟨b, 0⟩ 2 a.V W hat hb (by omega)
  rw [show (((1 : UInt8).toNat : Nat) : Int) = 1 from rfl] at hw1
  rw [show (((2 : UInt8).toNat : Nat) : Int) = 2 from rfl] at hw2
  have HW := Lib.hid hw1
  have HW2 := Lib.hid hw2
  have hk2 : k < 2 := hk
  clear ha hn hi hA hI hR hR' hat hag hD hb h1 h2 hw1 hw2
  show Calls Tryz.prog 30 #[.pointer (some ⟨p, 0, none⟩), .int .i64 (k : Int), .pointer (some ⟨bA, 0, none⟩), .pointer (some ⟨bI, 0, none⟩)] W _
  rcases (show k = 0 ∨ k = 1 by omega) with rfl | rfl
  · go_enter Tryz.func30, Tryz.ntmps30
    go_wp2_with (first
      | (go_at_call 23
         (with_reducible refine HW.out.mono ?_)
         rintro e w2 ⟨rfl, hat2, hm2⟩
         have HAT2 := Lib.hid hat2
         have HM2 := Lib.hid hm2
         clear hat2 hm2)
      | fail)
    refine bodyPost_end (v := .tuple #[]) (by simp [results, Tryz.results30, go_sem]) rfl ⟨⟨_, rfl⟩, ?_, HM2.out⟩
    have h := HAT2.out
    rw [e1.out] at h
    exact h
  · go_enter Tryz.func30, Tryz.ntmps30
    go_wp2_with (first
      | (go_at_call 23
         (with_reducible refine HW2.out.mono ?_)
         rintro e w2 ⟨rfl, hat2, hm2⟩
         have HAT2 := Lib.hid hat2
         have HM2 := Lib.hid hm2
         clear hat2 hm2)
      | fail)
    refine bodyPost_end (v := .tuple #[]) (by simp [results, Tryz.results30, go_sem]) rfl ⟨⟨_, rfl⟩, ?_, HM2.out⟩
    have h := HAT2.out
    rw [e2.out] at h
    exact h
def attrsL (xs : List At) : List (UInt8 × Bs) := xs.map fun a => (3, attrI a)
theorem valsV_attrs (xs : List At) : valsV (attrsL xs) = attrsV xs := by
  unfold valsV attrsL attrsV
  rw [List.flatMap_map]
  rfl
set_option maxHeartbeats 1000000 in
theorem put1_puts (bA : Nat) (A : Option Addr) (c : Nat) (xs : List At) (D0 : Nat → Prop) (w : World) (hA : w.cell? ⟨bA, 0, none⟩ = some (.slice A xs.length c)) (hR : Rd D0 w 2 At.cs A xs) (i : Nat) (hi : i < xs.length) (a : At) (ha : xs[i] = a)
    (h1 : a.T.length + a.V.length ≤ 4194294) :
    PutsV 29 #[.pointer (some ⟨bA, 0, none⟩)] 3 (attrI a) i (fun b => b = bA ∨ D0 b) w := by
  intro O p b W hat hag hD hb
  have hlt := hat.lt
  have hA' := (hag.cell (p := ⟨bA, 0, none⟩) (.inl rfl)).trans hA
  have hR' := (hR.mono (D' := fun b => b = bA ∨ D0 b) fun b h => .inr h).keep hag
  obtain ⟨W1, hW1⟩ : ∃ W1, W1 = W.alloc (.cells #[.int .i64 (i : Int)] 3) := ⟨_, rfl⟩
  have hm1 : Mod (fun _ => False) W W1 := by rw [hW1]; (repeat' (first | exact Mod.refl _ _ | assumption | refine Mod.alloc ?_ _ | refine Mod.drew ?_ | refine Mod.drewN ?_ _ | refine Mod.setCell ?_ (by first | exact Or.inl rfl | (right; simp; done) | (right; simp; omega) | (left; simp; done)) _))
  have hi1 : W1.heap[W.heap.size]? = some (.cells #[.int .i64 (i : Int)] 3 (0, 0)) := by rw [hW1]; exact hp_new _ _
  have hA1 : W1.cell? ⟨bA, 0, none⟩ = some (.slice A xs.length c) := (hm1.cell (p := ⟨bA, 0, none⟩) (hD bA (.inl rfl)).1 (fun h => h)).trans hA'
  have hR1 := hR'.keep (hm1.agree fun z hz => ⟨(hD z hz).1, id⟩)
  have hI1 : W1.cell? ⟨W.heap.size, 0, none⟩ = some (.int .i64 (i : Int)) := by rw [hp_cell hi1]; rfl
  have hl := attrI_len a
  have hwl := wlist_any (fun z => O z ∧ z < W.heap.size) p 39 ⟨b, 0⟩ 3 2 30 #[.pointer (some ⟨bA, 0, none⟩), .pointer (some ⟨W.heap.size, 0, none⟩)] (attrL a) (fun z => z = bA ∨ z = W.heap.size ∨ (z = bA ∨ D0 z)) W1 (hat.tight.keep hm1 (fun _ _ h => h) (fun h => h)) rfl
    enters_put11 (fun y hy => by
      rcases List.mem_cons.1 hy with rfl | hy
      · exact ⟨show (1 : UInt8) ≠ 0 by decide, by show a.T.length ≤ _; omega⟩
      · rcases List.mem_cons.1 hy with rfl | hy
        · exact ⟨show (2 : UInt8) ≠ 0 by decide, by show a.V.length ≤ _; omega⟩
        · cases hy) (by rw [valsV_attr]; omega) hb
    (fun k hk => put11_puts bA W.heap.size A c xs i _ W1 hA1 hI1 hR1 hi a ha (by omega) (by omega) k hk)
    (fun z hz => by
      have hs : W1.heap.size = W.heap.size + 1 := by rw [hW1]; simp
      rcases hz with h | h | h
      · have := (hD z (.inl h)).1; omega
      · omega
      · have := (hD z h).1; omega)
  rw [valsV_attr, Wt.bytes_ok b (t := 3) (by decide) (by omega)] at hwl
  rw [show (((3 : UInt8).toNat : Nat) : Int) = 3 from rfl, show ((2 : Nat) : Int) = 2 from rfl, hW1] at hwl
  have HW := Lib.hid hwl
  have HM1 := Lib.hid hm1
  rw [hW1] at HM1
  have HNo := Lib.hid hat.no
  clear hwl hm1 hW1 hi1 hA1 hR1 hI1 hA' hR' hA hR hat hag hD hb ha hi hl h1
  show Calls Tryz.prog 29 #[.pointer (some ⟨p, 0, none⟩), .int .i64 (i : Int), .pointer (some ⟨bA, 0, none⟩)] W _
  go_enter Tryz.func29, Tryz.ntmps29
  go_wp2_with (first
    | (go_at_call 28
       (with_reducible refine HW.out.mono ?_)
       rintro e w2 ⟨rfl, hat2, hm2⟩
       have HAT2 := Lib.hid hat2
       have HM2 := Lib.hid hm2
       clear hat2 hm2)
    | fail)
  exact bodyPost_end (v := .tuple #[]) (by simp [results, Tryz.results29, go_sem]) rfl ⟨⟨_, rfl⟩, WrAt.in_ HM1.out HNo.out hlt HAT2.out, Mod.in_ HM1.out HM2.out⟩
set_option maxHeartbeats 1000000 in
theorem eput_any (O : Nat → Prop) (p : Nat) (x : Wt) (t : UInt8) (A : Option Addr) (c : Nat) (xs : List At) (D0 : Nat → Prop) (w : World) (hat : WrAt O p 39 w x) (hsz : x.b.length ≤ 1099511627776) (hR : Rd D0 w 2 At.cs A xs) (hD : ∀ b, D0 b → b < w.heap.size)
    (hf : ∀ a ∈ xs, a.T.length + a.V.length ≤ 4194294) (hlen : (attrsV xs).length ≤ 1099511627776) :
    Calls Tryz.prog 11 #[.pointer (some ⟨p, 0, none⟩), .int .u8 (t.toNat : Int), .slice A xs.length c] w fun e w' =>
      (∃ r, e = .returned r) ∧ WrAt (fun b => O b ∨ w.heap.size ≤ b) p 39 w' (x.bytes t (attrsV xs)) ∧ Mod (fun b => b = p ∨ O b) w w' := by
  have hlt := hat.lt
  obtain ⟨n, hn⟩ : ∃ n, n = xs.length := ⟨_, rfl⟩
  obtain ⟨W1, hW1⟩ : ∃ W1, W1 = w.alloc (.cells #[.slice A n c] 22) := ⟨_, rfl⟩
  have hm1 : Mod (fun _ => False) w W1 := by rw [hW1]; (repeat' (first | exact Mod.refl _ _ | assumption | refine Mod.alloc ?_ _ | refine Mod.drew ?_ | refine Mod.drewN ?_ _ | refine Mod.setCell ?_ (by first | exact Or.inl rfl | (right; simp; done) | (right; simp; omega) | (left; simp; done)) _))
  have hi1 : W1.heap[w.heap.size]? = some (.cells #[.slice A n c] 22 (0, 0)) := by rw [hW1]; exact hp_new _ _
  have hA1 : W1.cell? ⟨w.heap.size, 0, none⟩ = some (.slice A xs.length c) := by rw [hp_cell hi1, ← hn]; rfl
  have hR1 := hR.keep (hm1.agree fun z hz => ⟨hD z hz, id⟩)
  have hwl := wlist_any (fun z => O z ∧ z < w.heap.size) p 39 x t n 29 #[.pointer (some ⟨w.heap.size, 0, none⟩)] (attrsL xs) (fun z => z = w.heap.size ∨ D0 z) W1 (hat.tight.keep hm1 (fun _ _ h => h) (fun h => h)) (by rw [hn]; simp [attrsL])
    enters_put1 (fun y hy => by
      obtain ⟨a, ha, rfl⟩ := List.mem_map.1 hy
      have := hf a ha
      exact ⟨show (3 : UInt8) ≠ 0 by decide, by show (attrI a).length ≤ _; rw [attrI_len]; omega⟩) (by rw [valsV_attrs]; exact hlen) hsz
    (fun k hk => by
      have hk' : k < xs.length := by simpa [attrsL] using hk
      have he : (attrsL xs)[k] = (3, attrI xs[k]) := by simp [attrsL]
      rw [he]
      exact put1_puts w.heap.size A c xs D0 W1 hA1 hR1 k hk' xs[k] rfl (hf _ (List.getElem_mem hk')))
    (fun z hz => by
      have hs : W1.heap.size = w.heap.size + 1 := by rw [hW1]; simp
      rcases hz with h | h
      · omega
      · have := hD z h; omega)
  rw [valsV_attrs, hW1] at hwl
  have HW := Lib.hid hwl
  have HM1 := Lib.hid hm1
  rw [hW1] at HM1
  have HNo := Lib.hid hat.no
  rw [← hn]
  clear hwl hm1 hW1 hi1 hA1 hR1 hR hat hD hf hlen hn hsz
  go_enter Tryz.func11, Tryz.ntmps11
  go_wp2_with (first
    | (go_at_call 28
       (with_reducible refine HW.out.mono ?_)
       rintro e w2 ⟨rfl, hat2, hm2⟩
       have HAT2 := Lib.hid hat2
       have HM2 := Lib.hid hm2
       clear hat2 hm2)
    | fail)
  exact bodyPost_end (v := .tuple #[]) (by simp [results, Tryz.results11, go_sem]) rfl ⟨⟨_, rfl⟩, WrAt.in_ HM1.out HNo.out hlt HAT2.out, Mod.in_ HM1.out HM2.out⟩
end Go.Proofs.YtccnkcaagigceaaGreat
/-
  The package entry: an entry's bytes.
-/
namespace Go.Proofs.YtccnkcaagigceaaGreat
open Go.RowKit Go.Shelf
attribute [local go_sem] Oper.semAt_some

/-- What Bytes answers. -/
def BytEnds (nm : Bs) (xs : List At) (w : World) (e : Ending) (w' : World) : Prop :=
  (if mayE nm xs = true then ∃ A c, e = .returned (.tuple #[.slice A (packV nm xs).length c, .int .i64 0]) ∧ OwnS w.heap.size 5 1 csU w' (.slice A (packV nm xs).length c) (packV nm xs) else e = .returned (.tuple #[.slice none 0 0, .int .i64 2])) ∧ Mod (fun _ => False) w w'
theorem mayE_fits {nm : Bs} {xs : List At} (h : mayE nm xs = true) : nm.length ≤ 1000 ∧ (attrsV xs).length ≤ 52350 ∧ ∀ a ∈ xs, a.T.length + a.V.length ≤ 4194294 := by
  unfold mayE at h
  rw [Bool.and_eq_true] at h
  obtain ⟨h1, h2⟩ := h
  obtain ⟨hl, hm, _⟩ := (mayAs_iff xs).1 h2
  have hal := attrsV_len xs hm
  refine ⟨by unfold mayNm at h1; simp at h1; exact h1.1, by omega, fun a ha => ?_⟩
  have := mayA_fits (hm a ha)
  omega
theorem WrAt.new0 {p : Nat} {w : World} (h : w.heap[p]? = some (.cells #[.slice none 0 0, .int .i64 0] 39 (0, 0))) : WrAt (fun b => p < b) p 39 w ⟨[], 0⟩ :=
  ⟨none, 0, 0, h, OwnS.nil _ _ _ _ _, rfl, fun b hb => (by cases hb), Nat.lt_irrefl _⟩
set_option maxRecDepth 100000 in
set_option maxHeartbeats 2000000 in
theorem ebytes_any (nm : Bs) (A : Option Addr) (c : Nat) (xs : List At) (w : World) (hnm : nm.length ≤ 9223372036854775807) (hA : Rd (fun b => b < w.heap.size) w 2 At.cs A xs) (hl : xs.length ≤ 1099511627776) (hf : ∀ a ∈ xs, FitA a) :
    Calls Tryz.prog 6 #[.agg #[.string ⟨nm.toArray⟩, .slice A xs.length c]] w (BytEnds nm xs w) := by
  obtain ⟨n, hn⟩ : ∃ n, n = xs.length := ⟨_, rfl⟩
  obtain ⟨W1, hW1⟩ : ∃ W1, W1 = w.alloc (.cells #[.string ⟨nm.toArray⟩, .slice A n c] 24) := ⟨_, rfl⟩
  have hm1 : Mod (fun _ => False) w W1 := by rw [hW1]; (repeat' (first | exact Mod.refl _ _ | assumption | refine Mod.alloc ?_ _ | refine Mod.drew ?_ | refine Mod.drewN ?_ _ | refine Mod.setCell ?_ (by first | exact Or.inl rfl | (right; simp; done) | (right; simp; omega) | (left; simp; done)) _))
  have hb1 : W1.heap[w.heap.size]? = some (.cells #[.string ⟨nm.toArray⟩, .slice A n c] 24 (0, 0)) := by rw [hW1]; exact hp_new _ _
  have hs1 : W1.heap.size = w.heap.size + 1 := by rw [hW1]; simp
  have hA1 := hA.keep (hm1.agree fun b hb => ⟨hb, id⟩)
  have hy := eentry_any nm A c xs W1 hnm (hA1.mono fun b hb => by omega) hl hf
  rw [← hn] at hy ⊢
  obtain ⟨z, hz⟩ : ∃ z, z = mayE nm xs := ⟨_, rfl⟩
  rw [← hz] at hy
  have HY := Lib.hid hy
  have HM1 := Lib.hid hm1
  have HA1 := Lib.hid hA1
  have HB1 := Lib.hid hb1
  have HZ := Lib.hid hz
  have HN := Lib.hid hn
  rw [hW1] at HY HM1 HA1 HB1
  clear hy hm1 hA1 hb1 hs1 hW1 hz hn hnm hA hl hf
  cases z
  · go_enter Tryz.func6, Tryz.ntmps6
    go_wp2_with (first
      | (go_at_call 22
         (with_reducible refine HY.out.mono ?_)
         rintro e w2 ⟨rfl, hm2⟩
         have HM2 := Lib.hid hm2
         clear hm2)
      | fail)
    refine bodyPost_ret (v := .tuple #[.slice none 0 0, .int .i64 2]) (by simp [results, Tryz.results6, go_sem]) rfl ⟨?_, HM1.out.trans' HM2.out⟩
    rw [if_neg (by rw [← HZ.out]; simp)]
  · have hfit := mayE_fits HZ.out.symm
    have HFit := Lib.hid hfit
    clear hfit
    go_enter Tryz.func6, Tryz.ntmps6
    go_wp2_with (first
      | (go_at_call 22
         (with_reducible refine HY.out.mono ?_)
         rintro e w2 ⟨rfl, hm2⟩
         have hb2 := hp_mod HB1.out hm2 id
         have hlt2 := hp_lt hb2
         have x0 : w2.cell? ⟨w.heap.size, 0, none⟩ = some (.string ⟨nm.toArray⟩) := by rw [hp_cell hb2]; rfl
         have hwt := wtext_any (fun b => w2.heap.size < b) w2.heap.size 39 ⟨[], 0⟩ 1 nm (w2.alloc (.cells #[.slice none 0 0, .int .i64 0] 39)) (WrAt.new0 (hp_new _ _)) (by simp) (by have := HFit.out.1; omega)
         rw [show (((1 : UInt8).toNat : Nat) : Int) = 1 from rfl, Wt.bytes_ok [] (t := 1) (by decide) (by have := HFit.out.1; omega), List.nil_append] at hwt
         have HWT := Lib.hid hwt
         have HM2 := Lib.hid hm2
         have HB2 := Lib.hid hb2
         clear hm2 hwt hb2)
      | (go_at_call 23
         (with_reducible refine HWT.out.mono ?_)
         rintro e w4 ⟨rfl, hat4, hm4⟩
         have hs2 : (w2.alloc (.cells #[.slice none 0 0, .int .i64 0] 39)).heap.size = w2.heap.size + 1 := by simp
         have hat4 : WrAt (fun b => w2.heap.size < b) w2.heap.size 39 w4 ⟨valV 1 nm, 0⟩ := hat4.more (fun b hb => by omega) (by omega)
         have hb4 := hp_mod (hp_alloc HB2.out _) hm4 (by omega)
         have x1 : w4.cell? ⟨w.heap.size, 1, none⟩ = some (.slice A n c) := by rw [hp_cell hb4]; rfl
         have x1' : w4.cell? ⟨w.heap.size, 0 + 1, none⟩ = some (.slice A n c) := by rw [hp_cell hb4]; rfl
         have hA4 := ((HA1.out.keep (HM2.out.agree fun b hb => ⟨by simp; omega, id⟩)).keep (((Mod.refl (fun _ => False) w2).alloc (.cells #[.slice none 0 0, .int .i64 0] 39)).agree fun b hb => ⟨by omega, id⟩)).keep (hm4.agree fun b hb => ⟨by omega, by omega⟩)
         have hpt := eput_any (fun b => w2.heap.size < b) w2.heap.size ⟨valV 1 nm, 0⟩ 2 A c xs _ w4 hat4 (by have := HFit.out.1; rw [valV_len]; omega) hA4 (fun b hb => by have := hp_lt hb4; omega) HFit.out.2.2 (by have := HFit.out.2.1; omega)
         rw [show (((2 : UInt8).toNat : Nat) : Int) = 2 from rfl, Wt.bytes_ok _ (t := 2) (by decide) (by have := HFit.out.2.1; omega), ← HN.out] at hpt
         have HPT := Lib.hid hpt
         have HM4 := Lib.hid ((((HM1.out.trans' HM2.out).alloc _).mono fun _ _ h => h.elim).trans (C := fun b => w.heap.size ≤ b) hm4 fun b hb => by left; omega)
         have hlt4 := hp_lt hb4
         clear hat4 hm4 hb4 hA4 hpt hs2)
      | (go_at_call 11
         (with_reducible refine HPT.out.mono ?_)
         rintro e w5 ⟨⟨r5, rfl⟩, hat5, hm5⟩
         have hat5 : WrAt (fun b => w2.heap.size < b ∨ w4.heap.size ≤ b) w2.heap.size 39 w5 ⟨packV nm xs, 0⟩ := hat5
         have hpl : (packV nm xs).length ≤ 1099511627776 := by
           have h1 := HFit.out.1
           have h2 := HFit.out.2.1
           unfold packV
           rw [List.length_append, valV_len, valV_len]
           omega
         have hen := wend_any _ _ _ _ w5 hat5 hpl
         have HEn := Lib.hid hen
         have HM5 := Lib.hid (HM4.out.trans hm5 fun b hb => by left; omega)
         clear hat5 hm5 hen hpl)
      | (go_at_call 12
         (with_reducible refine HEn.out.mono ?_)
         rintro e w6 ⟨he6, hm6⟩
         rw [if_pos rfl] at he6
         obtain ⟨A6, c6, he6, ho6⟩ := he6
         have ho6 : OwnS w5.heap.size 5 1 csU w6 (.slice A6 (packV nm xs).length c6) (packV nm xs) := ho6
         have he6 : e = .returned (.tuple #[.slice A6 (packV nm xs).length c6, .int .i64 0]) := he6
         obtain ⟨k, hk⟩ : ∃ k, k = (packV nm xs).length := ⟨_, rfl⟩
         rw [← hk] at he6
         subst he6
         have HK := Lib.hid hk
         have HO6 := Lib.hid ho6
         have HM6 := Lib.hid (HM5.out.trans hm6 fun _ h => h.elim)
         clear hm6 hk ho6)
      | fail)
    refine bodyPost_ret (v := .tuple #[.slice A6 k c6, .int .i64 0]) (by simp [results, Tryz.results6, go_sem]) rfl ⟨?_, HM6.out.mono fun b hb h => absurd h (by omega)⟩
    rw [if_pos HZ.out.symm]
    exact ⟨A6, c6, by rw [HK.out], HO6.out.less HM5.out.size⟩
end Go.Proofs.YtccnkcaagigceaaGreat
