/-
  Texts of this claim, one behind the other: ResH, ResI, ResJ.
-/
import Derived.Test.YtmalclclopnlnaaGreatPk16
import Derived.Test.YtmalclclopnlnaaGreatPk18
import Derived.Deep.RegionHeld3
/-
  The package message: a result's bytes are one number, one flag, the entries, the cursor.
-/
namespace Go.Proofs.YtmalclclopnlnaaGreat
open Go.RowKit Go.Shelf
attribute [local go_sem] Oper.semAt_some

theorem WrEnds.q {q T : Nat} {w w' : World} {x : Wt} {r : Ending} (h : WrEnds (fun b => q < b) q T w x r w') (hlt : q < w.heap.size) : r = .returned (.pointer (some ⟨q, 0, none⟩)) ∧ WrAt (fun b => q < b) q T w' x ∧ Mod (fun b => q ≤ b) w w' := by
  obtain ⟨h1, h2, h3⟩ := h
  refine ⟨h1, h2.more (fun b hb => by omega) (by omega), h3.mono fun b _ hb => ?_⟩
  rcases hb with h | h
  · exact Nat.le_of_eq h.symm
  · exact Nat.le_of_lt h
def esL (l : List EnC) : List (UInt8 × Bs) := l.map fun e => (1, entV e.ent)
theorem valsV_es (l : List EnC) : valsV (esL l) = esV (l.map EnC.ent) := by
  induction l with
  | nil => rfl
  | cons a l ih =>
    show valV 1 (entV a.ent) ++ valsV (esL l) = valV 1 (entV a.ent) ++ esV (l.map EnC.ent)
    rw [ih]
theorem esV_many : ∀ (l : List EnC), (∀ e ∈ l, mayEn e.ent = true) → (esV (l.map EnC.ent)).length ≤ 60005 * l.length
  | [], _ => by simp [esV]
  | a :: l, h => by
    have h1 := entV_len (h a (by simp))
    have h2 := esV_many l fun e he => h e (by simp [he])
    have : esV ((a :: l).map EnC.ent) = valV 1 (entV a.ent) ++ esV (l.map EnC.ent) := rfl
    rw [this, List.length_append, valV_len, List.length_cons]
    omega
def packE (x : Res) : Wt := if (esV x.es).length ≤ 4194304 then ⟨resV x, 0⟩ else ⟨valV 1 (be 8 x.code.toNat) ++ valV 2 (flB x.yes), 3⟩
theorem enters_pack1 (args : Array Value) (w : World) : (callFunc 70 args).run Tryz.prog w = .ok (.enter 70 args) w := enters_of Tryz.func70 (by kernel_rfl) rfl args w
theorem packE_eq (x : Res) (hc : x.cur.length ≤ 4000) : (((Wt.bytes ⟨[], 0⟩ 1 (be 8 x.code.toNat)).bytes 2 (flB x.yes)).bytes 3 (esV x.es)).bytes 4 x.cur = packE x := by
  have hf : (flB x.yes).length ≤ 4194304 := by cases x.yes <;> decide
  rw [Wt.bytes_ok [] (t := 1) (by decide) (by rw [be_len]; decide), Wt.bytes_ok _ (t := 2) (by decide) hf]
  unfold packE
  by_cases h : (esV x.es).length ≤ 4194304
  · rw [if_pos h, Wt.bytes_ok _ (t := 3) (by decide) h, Wt.bytes_ok _ (t := 4) (by decide) (by omega)]
    unfold resV
    simp [List.append_assoc]
  · rw [if_neg h]
    simp only [List.nil_append]
    have e3 : Wt.bytes ⟨valV 1 (be 8 x.code.toNat) ++ valV 2 (flB x.yes), 0⟩ 3 (esV x.es) = ⟨valV 1 (be 8 x.code.toNat) ++ valV 2 (flB x.yes), 3⟩ := by
      unfold Wt.bytes
      rw [if_neg (by simp), if_pos (by omega)]
    rw [e3]
    unfold Wt.bytes
    rw [if_pos (by simp)]
theorem bytes_len (x : Wt) (t : UInt8) (b : Bs) : (x.bytes t b).b.length ≤ x.b.length + (5 + b.length) := by
  unfold Wt.bytes
  split
  · omega
  · split
    · show x.b.length ≤ _; omega
    · split
      · show x.b.length ≤ _; omega
      · show (x.b ++ valV t b).length ≤ _; rw [List.length_append, valV_len]; omega
/-- What packing a result ends in. -/
def PackEnds (x : Res) (w : World) (e : Ending) (w' : World) : Prop :=
  (if (esV x.es).length ≤ 4194304 then ∃ A c, e = .returned (.tuple #[.slice A (resV x).length c, .int .i64 0]) ∧ OwnS w.heap.size 5 1 csU w' (.slice A (resV x).length c) (resV x) else e = .returned (.tuple #[.slice none 0 0, .int .i64 3])) ∧ Mod (fun _ => False) w w'
set_option maxRecDepth 100000 in
set_option maxHeartbeats 4000000 in
theorem mpack_any (r : RC) (w : World) (h : r.Ok (fun b => b < w.heap.size) w) (k : Nat) (hk : r.code = (k : Int)) (hk2 : k < 256) (hmay : ∀ e ∈ r.es, mayEn e.ent = true) (hes : r.es.length ≤ 1000) (hcu : r.cur.length ≤ 4000) :
    Calls Tryz.prog 47 #[r.val] w (PackEnds r.res w) := by
  obtain ⟨q, hq⟩ : ∃ q, q = w.heap.size + 1 := ⟨_, rfl⟩
  obtain ⟨W1, hW1⟩ : ∃ W1, W1 = w.alloc (.cells r.cs.toArray 37) := ⟨_, rfl⟩
  have hm1 : Mod (fun _ => False) w W1 := by rw [hW1]; (repeat' (first | exact Mod.refl _ _ | assumption | refine Mod.alloc ?_ _ | refine Mod.drew ?_ | refine Mod.drewN ?_ _ | refine Mod.setCell ?_ (by first | exact Or.inl rfl | (right; simp; done) | (right; simp; omega) | (left; simp; done)) _))
  have hb1 : W1.heap[w.heap.size]? = some (.cells r.cs.toArray 37 (0, 0)) := by rw [hW1]; exact hp_new _ _
  have hs1 : W1.heap.size = q := by rw [hW1, hq]; simp
  obtain ⟨n, hn⟩ : ∃ n, n = r.es.length := ⟨_, rfl⟩
  obtain ⟨m, hm⟩ : ∃ m, m = r.cur.length := ⟨_, rfl⟩
  have hB := fun X (M : Mod (fun b => q ≤ b) W1 X) => hp_mod hb1 M (by omega)
  have hK := fun X (M : Mod (fun b => q ≤ b) W1 X) => (show X.cell? ⟨w.heap.size, 0, none⟩ = some (.int .i64 (k : Int)) ∧ X.cell? ⟨w.heap.size, 1, none⟩ = some (.bool r.yes) ∧ X.cell? ⟨w.heap.size, 2, none⟩ = some (.slice r.A n r.cA) ∧ X.cell? ⟨w.heap.size, 3, none⟩ = some (.slice r.B m r.cB) from
    ⟨by rw [hp_cell (hB X M), ← hk]; rfl, by rw [hp_cell (hB X M)]; rfl, by rw [hp_cell (hB X M), hn]; rfl, by rw [hp_cell (hB X M), hm]; rfl⟩)
  have hO := fun X (M : Mod (fun b => q ≤ b) W1 X) => (h.mod hm1 fun b hb => ⟨hb, id⟩).mod M (fun b hb => ⟨by omega, by omega⟩)
  have hN := fun X (hX : X.heap[q]? = some (.cells #[.slice none 0 0, .int .i64 0] 125 (0, 0))) => wnumber_any (fun b => q < b) q 125 ⟨[], 0⟩ 1 k X (WrAt.new0 hX) (by omega) (by simp)
  have hF := fun x X (hX : WrAt (fun b => q < b) q 125 X x) (hl : x.b.length ≤ 1099511627776) => wflag_any (fun b => q < b) q 125 x 2 r.yes X hX hl
  have hL := fun x X (hX : WrAt (fun b => q < b) q 125 X x) (M : Mod (fun b => q ≤ b) W1 X) (hl : x.b.length ≤ 1099511627776) => wlist_any (fun b => q < b) q 125 x 3 n 70 #[.pointer (some ⟨w.heap.size, 0, none⟩)] (esL r.es) (fun b => b = w.heap.size ∨ b < w.heap.size) X hX (by rw [hn]; simp [esL])
    enters_pack1 (fun y hy => by
      obtain ⟨a, ha, rfl⟩ := List.mem_map.1 hy
      have := entV_len (hmay a ha)
      exact ⟨show (1 : UInt8) ≠ 0 by decide, by show (entV a.ent).length ≤ _; omega⟩) (by rw [valsV_es]; have := esV_many r.es hmay; omega) hl
    (fun i hi => by
      have hi' : i < r.es.length := by simpa [esL] using hi
      have he : (esL r.es)[i] = (1, entV r.es[i].ent) := by simp [esL]
      rw [he]
      exact pack1_puts w.heap.size r (fun b => b < w.heap.size) X (hB X M) (hO X M) i hi' _ rfl (hmay _ (List.getElem_mem hi')))
    (fun z hz => by have := M.size; omega)
  rw [valsV_es] at hL
  have hC := fun x X (hX : WrAt (fun b => q < b) q 125 X x) (M : Mod (fun b => q ≤ b) W1 X) (hl : x.b.length ≤ 1099511627776) => wbytes_any (fun b => q < b) q 125 x 4 (fun b => b < w.heap.size) r.B m r.cB r.cur X hX (fun b hb h => by omega) (hO X M).rdC hm hl (by omega)
  have hE := fun x X (hX : WrAt (fun b => q < b) q 125 X x) (hl : x.b.length ≤ 1099511627776) => wend_any _ _ _ x X hX hl
  rw [show (((1 : UInt8).toNat : Nat) : Int) = 1 from rfl] at hN
  rw [show (((2 : UInt8).toNat : Nat) : Int) = 2 from rfl] at hF
  rw [show (((3 : UInt8).toNat : Nat) : Int) = 3 from rfl] at hL
  rw [show (((4 : UInt8).toNat : Nat) : Int) = 4 from rfl] at hC
  have hP := packE_eq r.res hcu
  have hec : r.res.code.toNat = k := by show r.code.toNat = k; omega
  rw [hec] at hP
  obtain ⟨es, hes'⟩ : ∃ es, es = r.res.es := ⟨_, rfl⟩
  have l1 := bytes_len ⟨[], 0⟩ 1 (be 8 k)
  obtain ⟨x1, hx1⟩ : ∃ x, x = Wt.bytes ⟨[], 0⟩ 1 (be 8 k) := ⟨_, rfl⟩
  have l2 := bytes_len x1 2 (flB r.yes)
  obtain ⟨x2, hx2⟩ : ∃ x, x = x1.bytes 2 (flB r.yes) := ⟨_, rfl⟩
  have l3 := bytes_len x2 3 (esV (r.es.map EnC.ent))
  obtain ⟨x3, hx3⟩ : ∃ x, x = x2.bytes 3 (esV (r.es.map EnC.ent)) := ⟨_, rfl⟩
  have l4 := bytes_len x3 4 r.cur
  have hlE := esV_many r.es hmay
  rw [← hx1] at hP l1 hN
  have hP : ((x1.bytes 2 (flB r.yes)).bytes 3 (esV (r.es.map EnC.ent))).bytes 4 r.cur = packE r.res := hP
  rw [← hx2] at hP l2
  rw [← hx3] at hP l3
  rw [hP] at l4
  have hfl : (flB r.yes).length = 1 := by cases r.yes <;> rfl
  rw [be_len, List.length_nil] at l1
  have HN := Lib.hid hN
  have HF := Lib.hid (fun X (hX : WrAt (fun b => q < b) q 125 X x1) => hF x1 X hX (by omega))
  have HL := Lib.hid (fun X (hX : WrAt (fun b => q < b) q 125 X x2) (M : Mod (fun b => q ≤ b) W1 X) => hL x2 X hX M (by omega))
  have HC := Lib.hid (fun X (hX : WrAt (fun b => q < b) q 125 X x3) (M : Mod (fun b => q ≤ b) W1 X) => hC x3 X hX M (by omega))
  have HE := Lib.hid (fun X (hX : WrAt (fun b => q < b) q 125 X (packE r.res)) => hE (packE r.res) X hX (by omega))
  have HX2 := Lib.hid hx2
  have HX3 := Lib.hid hx3
  have HP := Lib.hid hP
  have HK := Lib.hid hK
  have HM1 := Lib.hid hm1
  have HQ := Lib.hid hq
  have HS1 := Lib.hid hs1
  have HW1 := Lib.hid (show w.alloc (.cells #[.int .i64 (k : Int), .bool r.yes, .slice r.A n r.cA, .slice r.B m r.cB] 37) = W1 by rw [hW1, ← hk, hn, hm]; rfl)
  obtain ⟨R, hR⟩ : ∃ R, R = r.res := ⟨_, rfl⟩
  rw [← hR] at HP HE ⊢
  obtain ⟨y, hy⟩ : ∃ y, y = r.yes := ⟨_, rfl⟩
  obtain ⟨A, hA⟩ : ∃ A, A = r.A := ⟨_, rfl⟩
  obtain ⟨B, hB'⟩ : ∃ B, B = r.B := ⟨_, rfl⟩
  obtain ⟨cA, hcA⟩ : ∃ c, c = r.cA := ⟨_, rfl⟩
  obtain ⟨cB, hcB⟩ : ∃ c, c = r.cB := ⟨_, rfl⟩
  have hval : r.val = .agg #[.int .i64 (k : Int), .bool r.yes, .slice r.A n r.cA, .slice r.B m r.cB] := by rw [hn, hm, ← hk]; rfl
  rw [hval]
  rw [← hy] at HK HF HX2 HW1 ⊢
  rw [← hA] at HK HW1 ⊢
  rw [← hcA] at HK HW1 ⊢
  rw [← hB'] at HK HC HW1 ⊢
  rw [← hcB] at HK HC HW1 ⊢
  have hk3 : IntKind.u64.wrap (k : Int) = (k : Int) := by rw [show IntKind.u64.wrap (k : Int) = (k : Int) % 18446744073709551616 from rfl]; omega
  obtain ⟨k0, k1, k2, k3⟩ := HK.out W1 (Mod.refl _ _)
  clear hN hF hL hC hE hP hx1 hx2 hx3 hK hm1 hq hs1 hW1 hb1 hB hO h hk hmay hes hcu hn hm hR hy hA hB' hcA hcB hval l1 l2 l3 l4 hlE hfl hes' hec
  obtain rfl : q = W1.heap.size := HS1.out.symm
  go_enter Tryz.func47, Tryz.ntmps47
  go_wp2
  rw [HW1.out]
  go_region_held3 (fun X => X.cell? ⟨w.heap.size, 0, none⟩ = some (.int .i64 (k : Int)) ∧ X.cell? ⟨w.heap.size, 1, none⟩ = some (.bool y) ∧ X.cell? ⟨w.heap.size, 2, none⟩ = some (.slice A n cA) ∧ X.cell? ⟨w.heap.size, 3, none⟩ = some (.slice B m cB)) (first | exact HK.out _ (by (repeat' (with_reducible (first | exact Mod.refl _ _ | assumption | refine Mod.alloc ?_ _ | refine Mod.drew ?_ | refine Mod.drewN ?_ _)))) | fail) (first
    | (go_at_call 67
       (with_reducible refine (HN.out _ (by first | exact hp_drew (hp_new _ _) | exact hp_new _ _)).mono ?_)
       intro e w1 hr1
       obtain ⟨rfl, hat1, hm1⟩ := WrEnds.q hr1 (by simp)
       have M1 : Mod (fun b => W1.heap.size ≤ b) W1 w1 := Mod.trans (by first | exact (Mod.refl _ _).alloc _ | exact ((Mod.refl _ _).alloc _).drew) hm1 (fun b hb => .inl hb)
       have HA1 := Lib.hid hat1
       have HL1 := Lib.hid hat1.lt
       clear hat1 hm1 hr1)
    | (go_at_call 68
       (with_reducible refine (HF.out _ HA1.out).mono ?_)
       intro e w2 hr2
       obtain ⟨rfl, hat2, hm2⟩ := WrEnds.q hr2 HL1.out
       rw [← HX2.out] at hat2
       have M2 := M1.trans hm2 (fun b hb => .inl hb)
       have HA2 := Lib.hid hat2
       have HL2 := Lib.hid hat2.lt
       clear hat2 hm2 hr2)
    | (go_at_call 69
       (with_reducible refine (HL.out _ HA2.out M2).mono ?_)
       intro e w3 hr3
       obtain ⟨rfl, hat3, hm3⟩ := WrEnds.q hr3 HL2.out
       rw [← HX3.out] at hat3
       have M3 := M2.trans hm3 (fun b hb => .inl hb)
       have HA3 := Lib.hid hat3
       have HL3 := Lib.hid hat3.lt
       clear hat3 hm3 hr3)
    | (go_at_call 72
       (with_reducible refine (HC.out _ HA3.out M3).mono ?_)
       intro e w4 hr4
       obtain ⟨rfl, hat4, hm4⟩ := WrEnds.q hr4 HL3.out
       rw [HP.out] at hat4
       have M4 := M3.trans hm4 (fun b hb => .inl hb)
       have HE4 := Lib.hid (HE.out _ hat4)
       clear hat4 hm4 hr4)
    | (go_at_call 73
       (with_reducible refine HE4.out.mono ?_)
       rintro e w5 ⟨he5, hm5⟩
       have M5 := M4.trans hm5 (fun b h => h.elim)
       have MF := Lib.hid ((HM1.out.mono (C' := fun b => W1.heap.size ≤ b) fun _ _ h => h.elim).trans M5 fun b hb => .inl hb)
       have hee : ∃ v n, e = .returned (.tuple #[v, .int .i64 n]) := by
         split at he5
         · obtain ⟨A5, c5, he5, -⟩ := he5
           exact ⟨_, _, he5⟩
         · exact ⟨_, _, he5⟩
       obtain ⟨v5, n5, rfl⟩ := hee
       have HE5 := Lib.hid he5
       clear he5 hm5)
    | fail)
  all_goals
    have hs := HM1.out.size
    have hs4 := M4.size
    have MG := MF.out.mono (C' := fun _ => False) fun b hb h => absurd h (by omega)
    have HZ := HE5.out
    clear HE5 MF M1 M2 M3 M4 M5
    unfold PackEnds
    have hR0 : R = r.res → True := fun _ => trivial
    unfold packE at HZ
    go_wp2
    refine bodyPost_ret (v := .tuple #[v5, .int .i64 n5]) (by simp [results, Tryz.results47, go_sem]) rfl ⟨?_, MG⟩
    split
    · rename_i hle
      rw [if_pos hle, if_pos rfl] at HZ
      obtain ⟨A5, c5, hv, ho⟩ := HZ
      exact ⟨A5, c5, hv, ho.less (by omega)⟩
    · rename_i hle
      rw [if_neg hle, if_neg (by simp)] at HZ
      exact HZ
end Go.Proofs.YtmalclclopnlnaaGreat
/-
  The package message: whether a result may be, its bytes if it may.
-/
namespace Go.Proofs.YtmalclclopnlnaaGreat
open Go.RowKit Go.Shelf
attribute [local go_sem] Oper.semAt_some

/-- Results whose entries have attributes of Go's own size. -/
def RC.Fit (r : RC) : Prop := r.es.length ≤ 1099511627776 ∧ ∀ e ∈ r.es, e.ats.length ≤ 1099511627776
set_option maxRecDepth 100000 in
set_option maxHeartbeats 1000000 in
theorem may1_any (x : EnC) (w : World) (h : x.Ok (fun b => b < w.heap.size) w) (hl : x.ats.length ≤ 1099511627776) :
    Calls Tryz.prog 65 #[x.val] w fun e w' => e = .returned (.bool (!mayEn x.ent)) ∧ Mod (fun _ => False) w w' := by
  have hE := fun X (hX : Mod (fun _ => False) w X) => eentry_any x.nm x.A x.c x.ats X h.nm ((h.rd.mod hX fun b hb => ⟨hb, id⟩).mono fun b hb => Nat.lt_of_lt_of_le hb hX.size) hl h.fit
  obtain ⟨n, hn⟩ : ∃ n, n = x.ats.length := ⟨_, rfl⟩
  rw [← hn] at hE
  have HE := Lib.hid hE
  have hv : x.val = .agg #[.string ⟨x.nm.toArray⟩, .slice x.A n x.c] := by rw [hn]; rfl
  rw [hv]
  obtain ⟨z, hz⟩ : ∃ z, z = mayE x.nm x.ats := ⟨_, rfl⟩
  rw [← hz] at HE
  rw [show mayEn x.ent = z from hz.symm]
  clear hE hn hv hz h hl
  go_enter Tryz.func65, Tryz.ntmps65
  go_wp2_with (first
    | (go_at_call 66
       (with_reducible refine (HE.out _ (by (repeat' (first | exact Mod.refl _ _ | assumption | refine Mod.alloc ?_ _ | refine Mod.drew ?_ | refine Mod.drewN ?_ _ | refine Mod.setCell ?_ (by first | exact Or.inl rfl | (right; simp; done) | (right; simp; omega) | (left; simp; done)) _)))).mono ?_)
       rintro e w1 ⟨rfl, hm1⟩
       have HM1 := Lib.hid (((Mod.refl (fun _ => False) w).alloc _).trans' hm1)
       clear hm1)
    | fail)
  go_ret
  exact ⟨rfl, HM1.out⟩
def idxE (p : EnC → Bool) (xs : List EnC) : Int := match xs.findIdx? p with | some i => i | none => -1
theorem enters_may1 (args : Array Value) (w : World) : (callFunc 65 args).run Tryz.prog w = .ok (.enter 65 args) w := enters_of Tryz.func65 (by kernel_rfl) rfl args w
set_option maxRecDepth 100000 in
set_option maxHeartbeats 1000000 in
theorem eindexF_any (p : EnC → Bool) (A : Option Addr) (c : Nat) (xs : List EnC) (w : World) (hA : Rd (fun b => b < w.heap.size) w 2 EnC.cs A xs) (hl : xs.length ≤ 1099511627776)
    (hp : ∀ x ∈ xs, ∀ X, Mod (fun _ => False) w X → Calls Tryz.prog 65 #[x.val] X fun e w' => e = .returned (.bool (p x)) ∧ Mod (fun _ => False) X w') :
    Calls Tryz.prog 89 #[.slice A xs.length c, .func (.func 65) #[] #[]] w fun e w' => e = .returned (.int .i64 (idxE p xs)) ∧ Mod (fun _ => False) w w' := by
  obtain ⟨z, hz⟩ : ∃ z, z = idxE p xs := ⟨_, rfl⟩
  rw [← hz]
  have HZ := Lib.hid hz
  obtain ⟨n, hn⟩ : ∃ n, n = xs.length := ⟨_, rfl⟩
  rw [← hn] at hl ⊢
  have HN := Lib.hid hn
  have HP := Lib.hid hp
  have HA := Lib.hid (fun X (hX : Mod (fun _ => False) w X) => hA.mod hX (fun b hb => ⟨hb, id⟩))
  have eg := enters_may1
  clear hz hn hA hp
  go_enter Tryz.func89, Tryz.ntmps89
  go_wp2
  go_loopw [8] (fun i wr => ∃ k : Nat, k ≤ n ∧ i = .int .i64 k ∧ (∀ x ∈ xs.take k, p x = false) ∧ Mod (fun _ => False) w wr) (fun i _ => n - (intOf i).toNat)
  case atStart => exact ⟨0, by omega, rfl, by simp, Mod.refl _ _⟩
  case round =>
    obtain ⟨k, hk, rfl, h1, hm⟩ := hrel
    have H1 := Lib.hid h1
    have HM := Lib.hid hm
    clear h1 hm
    by_cases hlt : k < n
    · have hkx : k < xs.length := by rw [← HN.out]; exact hlt
      obtain ⟨b1, o1, rfl, -, p0, p1⟩ := rdEn (HA.out _ HM.out) hkx
      obtain ⟨x, hx⟩ : ∃ x, x = xs[k] := ⟨_, rfl⟩
      rw [← hx] at p0 p1
      have HX := Lib.hid (show xs.take (k + 1) = xs.take k ++ [x] by rw [hx]; exact List.take_succ_eq_append_getElem hkx)
      have HC := Lib.hid (HP.out x (by rw [hx]; exact List.getElem_mem hkx) wr HM.out)
      have HI := Lib.hid (show p x = true → z = (k : Int) from fun h => by
        rw [HZ.out]
        unfold idxE
        have : xs.findIdx? p = some k := by
          rw [List.findIdx?_eq_some_iff_getElem]
          refine ⟨hkx, by rw [← hx]; exact h, fun j hj => ?_⟩
          have := H1.out xs[j] (by rw [List.mem_take_iff_getElem]; exact ⟨j, by omega, rfl⟩)
          simp [this]
        rw [this])
      unfold EnC.val at HC
      obtain ⟨m, hm⟩ : ∃ m, m = x.ats.length := ⟨_, rfl⟩
      rw [← hm] at HC p1
      clear hx hm
      cases hb : p x
      · have h2 := Lib.hid (show ∀ y ∈ xs.take (k + 1), p y = false from fun y hy => by
          rw [HX.out, List.mem_append, List.mem_singleton] at hy
          rcases hy with hy | rfl
          · exact H1.out y hy
          · exact hb)
        rw [hb] at HC
        clear hb
        go_wp2_with (first
          | ((with_reducible refine HC.out.mono ?_); rintro e w2 ⟨rfl, hm2⟩)
          | fail)
        exact ⟨⟨k + 1, by omega, by go_num, h2.out, HM.out.trans' hm2⟩, by simp only [intOf]; omega⟩
      · have hz := HI.out hb
        rw [hb] at HC
        subst hz
        clear hb
        go_wp2_with (first
          | ((with_reducible refine HC.out.mono ?_); rintro e w2 ⟨rfl, hm2⟩)
          | fail)
        go_ret
        exact ⟨rfl, HM.out.trans' hm2⟩
    · obtain rfl : k = n := by omega
      obtain rfl : z = -1 := by
        rw [HZ.out]
        unfold idxE
        have : xs.findIdx? p = none := by
          rw [List.findIdx?_eq_none_iff]
          intro y hy
          exact H1.out y (by rwa [List.take_of_length_le (by rw [← HN.out]; omega)])
        rw [this]
      go_wp2
      go_ret
      exact ⟨rfl, HM.out⟩
theorem idxE_any (p : EnC → Bool) (xs : List EnC) : decide (0 ≤ idxE p xs) = xs.any p := by
  unfold idxE
  cases h : xs.findIdx? p with
  | none =>
    rw [List.findIdx?_eq_none_iff] at h
    have : xs.any p = false := by rw [List.any_eq_false]; intro x hx; rw [h x hx]; simp
    rw [this]; rfl
  | some i =>
    obtain ⟨hi, h1, -⟩ := List.findIdx?_eq_some_iff_getElem.1 h
    have : xs.any p = true := List.any_eq_true.2 ⟨_, List.getElem_mem hi, h1⟩
    rw [this]
    simp
theorem econtF_any (p : EnC → Bool) (A : Option Addr) (c : Nat) (xs : List EnC) (w : World) (hA : Rd (fun b => b < w.heap.size) w 2 EnC.cs A xs) (hl : xs.length ≤ 1099511627776)
    (hp : ∀ x ∈ xs, ∀ X, Mod (fun _ => False) w X → Calls Tryz.prog 65 #[x.val] X fun e w' => e = .returned (.bool (p x)) ∧ Mod (fun _ => False) X w') :
    Calls Tryz.prog 64 #[.slice A xs.length c, .func (.func 65) #[] #[]] w fun e w' => e = .returned (.bool (xs.any p)) ∧ Mod (fun _ => False) w w' := by
  have HI := Lib.hid (eindexF_any p A c xs w hA hl hp)
  have hd := idxE_any p xs
  obtain ⟨z, hz⟩ : ∃ z, z = idxE p xs := ⟨_, rfl⟩
  obtain ⟨b, hb⟩ : ∃ b, b = xs.any p := ⟨_, rfl⟩
  rw [← hz, ← hb] at hd
  rw [← hz] at HI
  rw [← hb]
  clear hz hb hA hp hl
  go_enter Tryz.func64, Tryz.ntmps64
  go_wp2_with (first
    | (go_at_call 89
       (with_reducible refine HI.out.mono ?_)
       rintro e w1 ⟨rfl, hm1⟩
       have HM1 := Lib.hid hm1
       clear hm1)
    | fail)
  go_ret
  exact ⟨rfl, HM1.out⟩
end Go.Proofs.YtmalclclopnlnaaGreat
/-
  The package message: whether a result may be; its bytes, if it may.
-/
namespace Go.Proofs.YtmalclclopnlnaaGreat
open Go.RowKit Go.Shelf
attribute [local go_sem] Oper.semAt_some

theorem mayR_code {x : Res} (h : x.code ≠ 0) : mayR x = (decide (0 < x.code) && (decide (x.code ≤ 14) && decide (x = ⟨x.code, false, [], []⟩))) := by
  unfold mayR
  rw [if_neg h, Bool.and_assoc]
theorem mayR_zero {x : Res} (h : x.code = 0) : mayR x = (!decide (1000 < x.es.length) && (!x.es.any (fun e => !mayEn e) && (!decide (4000 < x.cur.length) && decide ((esV x.es).length ≤ 4194304)))) := by
  unfold mayR
  rw [if_pos h]
  have e1 : decide (x.es.length ≤ 1000) = !decide (1000 < x.es.length) := by
    by_cases h : x.es.length ≤ 1000
    · rw [decide_eq_true h, decide_eq_false (by omega)]; rfl
    · rw [decide_eq_false h, decide_eq_true (by omega)]; rfl
  have e2 : decide (x.cur.length ≤ 4000) = !decide (4000 < x.cur.length) := by
    by_cases h : x.cur.length ≤ 4000
    · rw [decide_eq_true h, decide_eq_false (by omega)]; rfl
    · rw [decide_eq_false h, decide_eq_true (by omega)]; rfl
  have e3 : x.es.all mayEn = !x.es.any (fun e => !mayEn e) := by
    induction x.es with
    | nil => rfl
    | cons a l ih => simp only [List.all_cons, List.any_cons, Bool.not_or, Bool.not_not]; rw [ih]
  rw [e1, e2, e3]
  simp only [Bool.and_assoc]
theorem PackEnds.err {x : Res} {w w' : World} {e : Ending} {d : Bool} (h : PackEnds x w e w') (hd : d = decide ((esV x.es).length ≤ 4194304)) : ∃ v, e = .returned (.tuple #[v, .int .i64 (if d = true then 0 else 3)]) := by
  obtain ⟨he, -⟩ := h
  subst hd
  split at he
  · rename_i h
    obtain ⟨A5, c5, he5, -⟩ := he
    exact ⟨_, by rw [he5, if_pos (decide_eq_true h)]⟩
  · rename_i h
    exact ⟨_, by rw [he, if_neg (by simpa using h)]⟩
theorem PackEnds.errT {x : Res} {w w' : World} {e : Ending} (h : PackEnds x w e w') (hd : true = decide ((esV x.es).length ≤ 4194304)) : ∃ v, e = .returned (.tuple #[v, .int .i64 0]) := by
  have := h.err hd
  rwa [if_pos rfl] at this
theorem PackEnds.errF {x : Res} {w w' : World} {e : Ending} (h : PackEnds x w e w') (hd : false = decide ((esV x.es).length ≤ 4194304)) : ∃ v, e = .returned (.tuple #[v, .int .i64 3]) := by
  have := h.err hd
  rwa [if_neg (by decide)] at this
set_option maxRecDepth 100000 in
set_option maxHeartbeats 4000000 in
theorem mmay_any (r : RC) (w : World) (h : r.Ok (fun b => b < w.heap.size) w) (hfit : r.Fit) :
    Calls Tryz.prog 46 #[r.val] w fun e w' => e = .returned (.bool (mayR r.res)) ∧ Mod (fun _ => False) w w' := by
  obtain ⟨n, hn⟩ : ∃ n, n = r.es.length := ⟨_, rfl⟩
  obtain ⟨m, hm⟩ : ∃ m, m = r.cur.length := ⟨_, rfl⟩
  have hb1 : (w.alloc (.cells r.cs.toArray 37)).heap[w.heap.size]? = some (.cells r.cs.toArray 37 (0, 0)) := hp_new _ _
  by_cases hc : r.code = 0
  · have hmz := mayR_zero (x := r.res) hc
    have hcs : w.alloc (.cells #[.int .i64 0, .bool r.yes, .slice r.A n r.cA, .slice r.B m r.cB] 37) = w.alloc (.cells r.cs.toArray 37) := by rw [hn, hm, ← hc]; rfl
    have hval : r.val = .agg #[.int .i64 0, .bool r.yes, .slice r.A n r.cA, .slice r.B m r.cB] := by rw [hn, hm, ← hc]; rfl
    have e1 : r.res.es.length = n := by rw [hn]; show (r.es.map EnC.ent).length = _; rw [List.length_map]
    have e2 : r.res.es.any (fun e => !mayEn e) = r.es.any (fun x => !mayEn x.ent) := by show (r.es.map EnC.ent).any _ = _; rw [List.any_map]; rfl
    have e3 : r.res.cur.length = m := hm.symm
    rw [e1, e2, e3] at hmz
    obtain ⟨d4, hd4⟩ : ∃ d, d = decide ((esV r.res.es).length ≤ 4194304) := ⟨_, rfl⟩
    rw [← hd4] at hmz
    obtain ⟨d2, hd2⟩ : ∃ d, d = r.es.any (fun x => !mayEn x.ent) := ⟨_, rfl⟩
    rw [← hd2] at hmz
    have hCo := fun X (hX : Mod (fun _ => False) w X) => econtF_any (fun x => !mayEn x.ent) r.A r.cA r.es X ((h.rdE.mod hX fun b hb => ⟨hb, id⟩).mono fun b hb => Nat.lt_of_lt_of_le hb hX.size) hfit.1 fun x hx Y hY => may1_any x Y (((h.ok x hx).mod (hX.trans' hY) fun b hb => ⟨hb, id⟩).mono fun b hb => Nat.lt_of_lt_of_le hb (hX.trans' hY).size) (hfit.2 x hx)
    rw [← hn, ← hd2] at hCo
    have hPk := fun (h2 : d2 = false) (h1 : n ≤ 1000) (h3 : m ≤ 4000) X (hX : Mod (fun _ => False) w X) => mpack_any r X ((h.mod hX fun b hb => ⟨hb, id⟩).mono fun b hb => Nat.lt_of_lt_of_le hb hX.size) 0 hc (by decide) (fun e he => by
      rw [hd2, List.any_eq_false] at h2
      have := h2 e he
      simpa using this) (by omega) (by omega)
    rw [hval] at hPk ⊢
    rw [hmz]
    have hlc : ∀ X, Mod (fun _ => False) w X → X.heap[w.heap.size]? = (w.alloc (.cells r.cs.toArray 37)).heap[w.heap.size]? → True := fun _ _ _ => trivial
    have HCo := Lib.hid hCo
    have HPk := Lib.hid hPk
    have HD4 := Lib.hid hd4
    obtain ⟨y, hy⟩ : ∃ y, y = r.yes := ⟨_, rfl⟩
    obtain ⟨A, hA⟩ : ∃ A, A = r.A := ⟨_, rfl⟩
    obtain ⟨B, hB⟩ : ∃ B, B = r.B := ⟨_, rfl⟩
    obtain ⟨cA, hcA⟩ : ∃ c, c = r.cA := ⟨_, rfl⟩
    obtain ⟨cB, hcB⟩ : ∃ c, c = r.cB := ⟨_, rfl⟩
    have HB1 := Lib.hid (show (w.alloc (.cells #[.int .i64 0, .bool r.yes, .slice r.A n r.cA, .slice r.B m r.cB] 37)).heap[w.heap.size]? = some (.cells #[.int .i64 0, .bool r.yes, .slice r.A n r.cA, .slice r.B m r.cB] 37 (0, 0)) from hp_new _ _)
    rw [← hy, ← hA, ← hB, ← hcA, ← hcB] at HPk HB1 ⊢
    rw [← hA, ← hcA] at HCo
    obtain ⟨x, hx⟩ : ∃ x, x = r.res := ⟨_, rfl⟩
    rw [← hx] at HPk HD4
    clear hb1 hcs hval e1 e2 e3 hd4 hd2 hCo hPk hlc hmz hn hm hy hA hB hcA hcB h hfit hc hx
    obtain ⟨d1, hd1⟩ : ∃ d, d = decide (1000 < n) := ⟨_, rfl⟩
    obtain ⟨d3, hd3⟩ : ∃ d, d = decide (4000 < m) := ⟨_, rfl⟩
    rw [← hd1, ← hd3]
    have HD1 := Lib.hid hd1
    have HD3 := Lib.hid hd3
    have i1 : decide ((1000 : Int) < (n : Int)) = d1 := by rw [hd1]; exact decide_eq_decide.2 (by omega)
    have i3 : decide ((4000 : Int) < (m : Int)) = d3 := by rw [hd3]; exact decide_eq_decide.2 (by omega)
    clear hd1 hd3
    cases d1
    case true =>
      go_enter Tryz.func46, Tryz.ntmps46
      go_wp2
      go_ret
      exact ⟨rfl, by (repeat' (first | exact Mod.refl _ _ | assumption | refine Mod.alloc ?_ _ | refine Mod.drew ?_ | refine Mod.drewN ?_ _ | refine Mod.setCell ?_ (by first | exact Or.inl rfl | (right; simp; done) | (right; simp; omega) | (left; simp; done)) _))⟩
    have hn1 : n ≤ 1000 := by have := of_decide_eq_false HD1.out.symm; omega
    cases d2
    case true =>
      go_enter Tryz.func46, Tryz.ntmps46
      go_wp2_with (first
        | (go_at_call 64
           (with_reducible refine (HCo.out _ (by (repeat' (first | exact Mod.refl _ _ | assumption | refine Mod.alloc ?_ _ | refine Mod.drew ?_ | refine Mod.drewN ?_ _ | refine Mod.setCell ?_ (by first | exact Or.inl rfl | (right; simp; done) | (right; simp; omega) | (left; simp; done)) _)))).mono ?_)
           rintro e w1 ⟨rfl, hm1⟩
           have HM1 := Lib.hid (((Mod.refl (fun _ => False) w).alloc _).trans' hm1)
           clear hm1)
        | fail)
      go_ret
      exact ⟨rfl, HM1.out⟩
    cases d3
    case true =>
      go_enter Tryz.func46, Tryz.ntmps46
      go_wp2_with (first
        | (go_at_call 64
           (with_reducible refine (HCo.out _ (by (repeat' (first | exact Mod.refl _ _ | assumption | refine Mod.alloc ?_ _ | refine Mod.drew ?_ | refine Mod.drewN ?_ _ | refine Mod.setCell ?_ (by first | exact Or.inl rfl | (right; simp; done) | (right; simp; omega) | (left; simp; done)) _)))).mono ?_)
           rintro e w1 ⟨rfl, hm1⟩
           have hb1 := hp_mod HB1.out hm1 id
           have x3 : w1.cell? ⟨w.heap.size, 0 + 3, none⟩ = some (.slice B m cB) := hp_cell hb1 3
           have x3' : w1.cell? ⟨w.heap.size, 3, none⟩ = some (.slice B m cB) := hp_cell hb1 3
           have HM1 := Lib.hid (((Mod.refl (fun _ => False) w).alloc _).trans' hm1)
           clear hm1 hb1)
        | fail)
      go_ret
      exact ⟨rfl, HM1.out⟩
    have hm3 : m ≤ 4000 := by have := of_decide_eq_false HD3.out.symm; omega
    have HPk2 := Lib.hid (HPk.out rfl hn1 hm3)
    clear HPk
    cases d4
    all_goals
      have hd4 := HD4.out
      have hpe := fun (w w' : World) (e : Ending) (h : PackEnds x w e w') => (by first | exact h.errT hd4 | exact h.errF hd4 : ∃ v, e = .returned (.tuple #[v, .int .i64 _]))
      have HPE := Lib.hid hpe
      clear hpe hd4
      go_enter Tryz.func46, Tryz.ntmps46
      go_wp2_with (first
        | (go_at_call 64
           (with_reducible refine (HCo.out _ (by (repeat' (first | exact Mod.refl _ _ | assumption | refine Mod.alloc ?_ _ | refine Mod.drew ?_ | refine Mod.drewN ?_ _ | refine Mod.setCell ?_ (by first | exact Or.inl rfl | (right; simp; done) | (right; simp; omega) | (left; simp; done)) _)))).mono ?_)
           rintro e w1 ⟨rfl, hm1⟩
           have hb1 := hp_mod HB1.out hm1 id
           have x0 : w1.cell? ⟨w.heap.size, 0, none⟩ = some (.int .i64 0) := hp_cell hb1 0
           have x1 : w1.cell? ⟨w.heap.size, 0 + 1, none⟩ = some (.bool y) := hp_cell hb1 1
           have x1' : w1.cell? ⟨w.heap.size, 1, none⟩ = some (.bool y) := hp_cell hb1 1
           have x2 : w1.cell? ⟨w.heap.size, 0 + 2, none⟩ = some (.slice A n cA) := hp_cell hb1 2
           have x2' : w1.cell? ⟨w.heap.size, 2, none⟩ = some (.slice A n cA) := hp_cell hb1 2
           have x3 : w1.cell? ⟨w.heap.size, 0 + 3, none⟩ = some (.slice B m cB) := hp_cell hb1 3
           have x3' : w1.cell? ⟨w.heap.size, 3, none⟩ = some (.slice B m cB) := hp_cell hb1 3
           have HM1 := Lib.hid (((Mod.refl (fun _ => False) w).alloc _).trans' hm1)
           clear hm1 hb1)
        | (go_at_call 47
           (with_reducible refine (HPk2.out _ HM1.out).mono ?_)
           intro e w2 hpk
           obtain ⟨v, rfl⟩ := HPE.out _ _ _ hpk
           have HM2 := Lib.hid (Mod.trans' (by first | exact HM1.out | exact HM1.out.drew | exact HM1.out.drewN _) hpk.2)
           clear hpk)
        | fail)
      go_ret
      exact ⟨rfl, HM2.out⟩
  · have hmz := mayR_code (x := r.res) hc
    have hc' : r.res.code = r.code := rfl
    rw [hc'] at hmz
    have hSm := fun X (hX : Mod (fun _ => False) w X) => msame_any r (RC.nil r.code) X ((h.mod hX fun b hb => ⟨hb, id⟩).mono fun b hb => Nat.lt_of_lt_of_le hb hX.size) (RC.nil_ok h.code)
    obtain ⟨d3, hd3⟩ : ∃ d, d = decide (r.res = ⟨r.code, false, [], []⟩) := ⟨_, rfl⟩
    rw [RC.nil_res, ← hd3] at hSm
    rw [← hd3] at hmz
    rw [hmz]
    have hval : r.val = .agg #[.int .i64 r.code, .bool r.yes, .slice r.A n r.cA, .slice r.B m r.cB] := by rw [hn, hm]; rfl
    rw [hval] at hSm ⊢
    have hSm : ∀ X, Mod (fun _ => False) w X → Calls Tryz.prog 63 #[.agg #[.int .i64 r.code, .bool r.yes, .slice r.A n r.cA, .slice r.B m r.cB], .agg #[.int .i64 r.code, .bool false, .slice none 0 0, .slice none 0 0]] X fun e w' => e = .returned (.bool d3) ∧ Mod (fun _ => False) X w' := hSm
    have HSm := Lib.hid hSm
    obtain ⟨k, hk⟩ : ∃ k, k = r.code := ⟨_, rfl⟩
    obtain ⟨y, hy⟩ : ∃ y, y = r.yes := ⟨_, rfl⟩
    obtain ⟨A, hA⟩ : ∃ A, A = r.A := ⟨_, rfl⟩
    obtain ⟨B, hB⟩ : ∃ B, B = r.B := ⟨_, rfl⟩
    obtain ⟨cA, hcA⟩ : ∃ c, c = r.cA := ⟨_, rfl⟩
    obtain ⟨cB, hcB⟩ : ∃ c, c = r.cB := ⟨_, rfl⟩
    rw [← hk, ← hy, ← hA, ← hB, ← hcA, ← hcB] at HSm ⊢
    rw [← hk] at hc
    clear hb1 hval hd3 hSm hmz hn hm hy hA hB hcA hcB h hfit hc' hk
    obtain ⟨d1, hd1⟩ : ∃ d, d = decide (0 < k) := ⟨_, rfl⟩
    obtain ⟨d2, hd2⟩ : ∃ d, d = decide (k ≤ 14) := ⟨_, rfl⟩
    rw [← hd1, ← hd2]
    have i1 : decide ((0 : Int) < k) = d1 := hd1.symm
    have i2 : decide (k ≤ (14 : Int)) = d2 := hd2.symm
    clear hd1 hd2
    cases d1
    · go_enter Tryz.func46, Tryz.ntmps46
      go_wp2
      go_ret
      exact ⟨rfl, by (repeat' (first | exact Mod.refl _ _ | assumption | refine Mod.alloc ?_ _ | refine Mod.drew ?_ | refine Mod.drewN ?_ _ | refine Mod.setCell ?_ (by first | exact Or.inl rfl | (right; simp; done) | (right; simp; omega) | (left; simp; done)) _))⟩
    cases d2
    · go_enter Tryz.func46, Tryz.ntmps46
      go_wp2
      go_ret
      exact ⟨rfl, by (repeat' (first | exact Mod.refl _ _ | assumption | refine Mod.alloc ?_ _ | refine Mod.drew ?_ | refine Mod.drewN ?_ _ | refine Mod.setCell ?_ (by first | exact Or.inl rfl | (right; simp; done) | (right; simp; omega) | (left; simp; done)) _))⟩
    go_enter Tryz.func46, Tryz.ntmps46
    go_wp2_with (first
      | (go_at_call 63
         (with_reducible refine (HSm.out _ (by (repeat' (first | exact Mod.refl _ _ | assumption | refine Mod.alloc ?_ _ | refine Mod.drew ?_ | refine Mod.drewN ?_ _ | refine Mod.setCell ?_ (by first | exact Or.inl rfl | (right; simp; done) | (right; simp; omega) | (left; simp; done)) _)))).mono ?_)
         rintro e w1 ⟨rfl, hm1⟩
         have HM1 := Lib.hid (((Mod.refl (fun _ => False) w).alloc _).trans' hm1)
         clear hm1)
      | fail)
    go_ret
    exact ⟨rfl, HM1.out⟩
end Go.Proofs.YtmalclclopnlnaaGreat
